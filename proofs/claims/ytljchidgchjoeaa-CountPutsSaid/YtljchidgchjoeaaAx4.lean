/- The abstract executor: operations that leave memory alone, one by one. -/
import Derived.Test.YtljchidgchjoeaaAx3
namespace Go.Ax
open Go Go.RowKit

section
variable {P : Program} {w : World} {env : Nat → Nat} {m : Nat}

theorem li_R {k : IntKind} {n : Int} (h : okI k n) : (AV.one (.li k n)).R env m (.int k n) := ⟨h, rfl⟩
theorem si_R {k : IntKind} {n : Int} (h : okI k n) : (AV.one (.si k n)).R env m (.int k n) := ⟨h, rfl⟩
theorem lb_R {b : Bool} : (AV.one (.lb b)).R env m (.bool b) := ⟨trivial, rfl⟩
theorem sb_R {b : Bool} : (AV.one (.sb b)).R env m (.bool b) := ⟨trivial, rfl⟩

theorem unsigned_ok {k : IntKind} {n : Int} (hk : k.signed = false) (h : okI k n) : 0 ≤ n := by
  have := h.1
  unfold IntKind.min at this
  rw [hk] at this
  simpa using this

theorem bool?_val {x : AV} {p b : Bool} {v : Value} (h : x.bool? = some (p, b)) (hx : x.R env m v) : v = .bool b := by
  unfold AV.bool? at h
  split at h
  · rename_i c hc; cases h; exact bool_val (.inl hc) hx
  · rename_i c hc; cases h; exact bool_val (.inr hc) hx
  · cases h
theorem run_equal_bool {t : TypeId} (hu : P.underlying t = some .bool) (a b : Bool) : (Op.equal t (.bool a) (.bool b)).run P w = .ok (a == b) w := by
  show (Op.equalIn (9999 + 1) t (.bool a) (.bool b)).run P w = _
  unfold Op.equalIn
  simp only [Sem.run_bind, run_underlying hu, Result.andThen_ok]
  rfl
theorem run_eql_bool {t : TypeId} (hu : P.underlying t = some .bool) (xo yo : Operand) (a b : Bool) : (do eqGuard .eql t xo yo (.bool a) (.bool b); binOp .eql t (.bool a) (.bool b)).run P w = .ok (.bool (a == b)) w := by
  show ((do pure (Value.bool (← Op.equal t (.bool a) (.bool b))) : Sem Value)).run P w = _
  rw [Sem.run_bind, run_equal_bool hu]
  rfl
theorem run_neq_bool {t : TypeId} (hu : P.underlying t = some .bool) (xo yo : Operand) (a b : Bool) : (do eqGuard .neq t xo yo (.bool a) (.bool b); binOp .neq t (.bool a) (.bool b)).run P w = .ok (.bool (!(a == b))) w := by
  show ((do pure (Value.bool (!(← Op.equal t (.bool a) (.bool b)))) : Sem Value)).run P w = _
  rw [Sem.run_bind, run_equal_bool hu]
  rfl
theorem mkB_R {p b : Bool} : (mkB p b).R env m (.bool b) := by cases p <;> exact ⟨trivial, rfl⟩

theorem binA_sound {op : BinOp} {xt : TypeId} {x y v : AV} {ps : List Prop} {vx vy : Value} (xo yo : Operand) (h : binA P op xt x y = some (ps, v)) (hp : allP ps) (hx : x.R env m vx) (hy : y.R env m vy) :
    RunV P w env m (do eqGuard op xt xo yo vx vy; binOp op xt vx vy) v := by
  unfold binA at h
  split at h
  · rename_i k a k' b ex ey
    obtain ⟨rfl, ka⟩ := int_val (.inl ex) hx
    obtain ⟨rfl, kb⟩ := int_val (.inl ey) hy
    split at h
    · rename_i hs
      split at h
      · rename_i hb
        have hb' := of_decide_eq_true hb
        cases h
        exact ⟨_, by simp only [Sem.run_bind, run_eqGuard_int, Result.andThen_ok]; exact run_shift hs hb', li_R (ok_binI ka (.inr hs))⟩
      · cases h
    · split at h
      · cases h
      · rename_i hk
        have hk := kEq_of hk
        subst hk
        split at h
        · rename_i hc
          cases h
          exact ⟨_, by simp only [Sem.run_bind, run_eqGuard_int, Result.andThen_ok]; exact run_cmp hc, lb_R⟩
        · split at h
          · cases h
          · rename_i ha
            split at h
            · cases h
            · rename_i hd
              cases h
              exact ⟨_, by simp only [Sem.run_bind, run_eqGuard_int, Result.andThen_ok]; exact run_arith ha (fun h1 h2 => by simp [h1, h2] at hd), li_R (ok_binI ka (.inl ha))⟩
  · rename_i k a k' b ex ey
    obtain ⟨rfl, ka⟩ := int_val (.inl ex) hx
    obtain ⟨rfl, kb⟩ := int_val (.inr ey) hy
    split at h
    · rename_i hs
      cases h
      have hb0 : 0 ≤ b := by
        split at hp
        · exact hp.1
        · rename_i hsg; exact unsigned_ok hsg kb
      exact ⟨_, by simp only [Sem.run_bind, run_eqGuard_int, Result.andThen_ok]; exact run_shift hs hb0, si_R (ok_binI ka (.inr hs))⟩
    · split at h
      · cases h
      · rename_i hk
        have hk := kEq_of hk
        subst hk
        split at h
        · rename_i hc
          cases h
          exact ⟨_, by simp only [Sem.run_bind, run_eqGuard_int, Result.andThen_ok]; exact run_cmp hc, sb_R⟩
        · split at h
          · cases h
          · rename_i ha
            cases h
            have hd0 : isDiv op = true → b ≠ 0 := fun h1 => by
              rw [h1] at hp
              exact hp.1
            exact ⟨_, by simp only [Sem.run_bind, run_eqGuard_int, Result.andThen_ok]; exact run_arith ha hd0, si_R (ok_binI ka (.inl ha))⟩
  · rename_i k a k' b ex ey
    obtain ⟨rfl, ka⟩ := int_val (.inr ex) hx
    obtain ⟨rfl, kb⟩ := int_val (.inr ey) hy
    split at h
    · rename_i hs
      cases h
      have hb0 : 0 ≤ b := by
        split at hp
        · exact hp.1
        · rename_i hsg; exact unsigned_ok hsg kb
      exact ⟨_, by simp only [Sem.run_bind, run_eqGuard_int, Result.andThen_ok]; exact run_shift hs hb0, si_R (ok_binI ka (.inr hs))⟩
    · split at h
      · cases h
      · rename_i hk
        have hk := kEq_of hk
        subst hk
        split at h
        · rename_i hc
          cases h
          exact ⟨_, by simp only [Sem.run_bind, run_eqGuard_int, Result.andThen_ok]; exact run_cmp hc, sb_R⟩
        · split at h
          · cases h
          · rename_i ha
            cases h
            have hd0 : isDiv op = true → b ≠ 0 := fun h1 => by
              rw [h1] at hp
              exact hp.1
            exact ⟨_, by simp only [Sem.run_bind, run_eqGuard_int, Result.andThen_ok]; exact run_arith ha hd0, si_R (ok_binI ka (.inl ha))⟩
  · rename_i k a k' b ex ey
    obtain ⟨rfl, ka⟩ := int_val (.inr ex) hx
    obtain ⟨rfl, kb⟩ := int_val (.inl ey) hy
    split at h
    · rename_i hs
      split at h
      · rename_i hb
        have hb' := of_decide_eq_true hb
        cases h
        exact ⟨_, by simp only [Sem.run_bind, run_eqGuard_int, Result.andThen_ok]; exact run_shift hs hb', si_R (ok_binI ka (.inr hs))⟩
      · cases h
    · split at h
      · cases h
      · rename_i hk
        have hk := kEq_of hk
        subst hk
        split at h
        · rename_i hc
          cases h
          exact ⟨_, by simp only [Sem.run_bind, run_eqGuard_int, Result.andThen_ok]; exact run_cmp hc, sb_R⟩
        · split at h
          · cases h
          · rename_i ha
            split at h
            · cases h
            · rename_i hd
              cases h
              exact ⟨_, by simp only [Sem.run_bind, run_eqGuard_int, Result.andThen_ok]; exact run_arith ha (fun h1 h2 => by simp [h1, h2] at hd), si_R (ok_binI ka (.inl ha))⟩
  · split at h
    · rename_i l l' _ _ _ _
      obtain ⟨vs, rfl, h1⟩ := hx
      obtain ⟨vs', rfl, h2⟩ := hy
      split at h
      · rename_i pl hg hpl
        split at h
        · rename_i e he
          have hrun := run_equalIn_A (P := P) (w := w) (env := env) (m := m) 9998 xt pl e l l' vs vs' h1 h2 hpl he
          split at h
          · cases h
            exact ⟨_, by simp only [Sem.run_bind, run_eqGuard_agg w _ _ _ _ _ _ hg, Result.andThen_ok, run_eql_struct, hrun], sb_R⟩
          · cases h
            exact ⟨_, by simp only [Sem.run_bind, run_eqGuard_agg w _ _ _ _ _ _ hg, Result.andThen_ok, run_neq_struct, hrun], sb_R⟩
          · cases h
        · cases h
      · cases h
    · split at h
      · rename_i p a q b hu hbx hby
        have hvx := bool?_val hbx hx
        have hvy := bool?_val hby hy
        subst hvx hvy
        split at h
        · cases h
          exact ⟨_, run_eql_bool hu xo yo a b, mkB_R⟩
        · cases h
          exact ⟨_, run_neq_bool hu xo yo a b, mkB_R⟩
        · cases h
      · cases h

theorem unA_sound {op : UnOp} {x v : AV} {ps : List Prop} {vx : Value} (h : unA op x = some (ps, v)) (hx : x.R env m vx) : RunV P w env m (Op.unary op vx) v := by
  unfold unA at h
  split at h <;> cases h
  · obtain ⟨hk, rfl⟩ := hx; exact ⟨_, rfl, li_R (ok_wrap _ _)⟩
  · obtain ⟨hk, rfl⟩ := hx; exact ⟨_, rfl, si_R (ok_wrap _ _)⟩
  · obtain ⟨hk, rfl⟩ := hx; exact ⟨_, rfl, li_R (ok_wrap _ _)⟩
  · obtain ⟨hk, rfl⟩ := hx; exact ⟨_, rfl, si_R (ok_wrap _ _)⟩
  · obtain ⟨_, rfl⟩ := hx; exact ⟨_, rfl, lb_R⟩
  · obtain ⟨_, rfl⟩ := hx; exact ⟨_, rfl, sb_R⟩

theorem convA_sound {s d : TypeId} {x v : AV} {ps : List Prop} {vx : Value} (h : convA P s d x = some (ps, v)) (hx : x.R env m vx) : RunV P w env m (convert s d vx) v := by
  unfold convA at h
  split at h
  · rename_i k0 k k' n hs hd
    obtain ⟨hk, rfl⟩ := hx
    have hr : (convert s d ((SV.li k' n).conc env)).run P w = .ok (.int k (k.wrap n)) w := by
      simp [SV.conc, convert, run_underlying hs, run_underlying hd, Conv.intToInt]
    split at h
    · rename_i hkk
      have hkk := kEq_of hkk
      subst hkk
      cases h
      exact ⟨_, hr, by rw [wrap_ok hk]; exact li_R hk⟩
    · cases h
      exact ⟨_, hr, li_R (ok_wrap _ _)⟩
  · rename_i k0 k k' n hs hd
    obtain ⟨hk, rfl⟩ := hx
    have hr : (convert s d ((SV.si k' n).conc env)).run P w = .ok (.int k (k.wrap n)) w := by
      simp [SV.conc, convert, run_underlying hs, run_underlying hd, Conv.intToInt]
    split at h
    · rename_i hkk
      have hkk := kEq_of hkk
      subst hkk
      cases h
      exact ⟨_, hr, by rw [wrap_ok hk]; exact si_R hk⟩
    · cases h
      exact ⟨_, hr, si_R (ok_wrap _ _)⟩
  · cases h

end
end Go.Ax
