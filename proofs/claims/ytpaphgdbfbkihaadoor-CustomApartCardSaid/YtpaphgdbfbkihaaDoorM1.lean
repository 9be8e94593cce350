/- What the functions of all layers share: the configuration without package-level variables; numbers; results. -/
import Derived.Test.YtpaphgdbfbkihaaDoorAx16
import Derived.Test.YtpaphgdbfbkihaaDoorRows
namespace Go.Proofs.YtpaphgdbfbkihaaDoor
open Go Go.Ax

abbrev PSs := List (Nat × (List AV → Mem → Option (List Prop × AV)))
abbrev FSs := List (Nat × (List AV → Mem → Option (List Prop × RT)))
abbrev LQs := List (Nat × Code × (TM → Mem → Option ((AE → TM → Mem → Out) → Out)))
def gdM : List (Nat × List SV) := []
noncomputable def cfgM (fns : List (Nat × Func)) (ps : PSs) (fs : FSs) (lq : LQs) (sp : List (Nat × Nat × List Int)) : Cfg := { P := Tryd.prog, fns := fns, gl := glFrom 0 gdM, gd := gdM, ps := ps, fs := fs, lq := lq, sp := sp }
noncomputable abbrev cM : Cfg := cfgM [] [] [] [] []
theorem mixedM : Tryd.prog.follows .mixedOrders = true := by kernel_rfl
theorem FOk.cast {C C' : Cfg} {g : Nat} {F : List AV → Mem → Option (List Prop × RT)} (hP : C'.P = C.P) (hgl : C'.gl = C.gl) (hgd : C'.gd = C.gd) (h : FOk C g F) : FOk C' g F := by
  obtain ⟨h1, h2⟩ := h
  refine ⟨by rw [hP]; exact h1, fun args mem r conds hF hp B w0 w env vals hm ha => ?_⟩
  rw [hP]
  exact h2 args mem r conds hF hp B w0 w env vals (hm.cast hgl.symm hgd.symm) ha
theorem LoopQ.cast {C C' : Cfg} {bd : Code} {F : TM → Mem → Option ((AE → TM → Mem → Out) → Out)} (hP : C'.P = C.P) (hgl : C'.gl = C.gl) (hgd : C'.gd = C.gd) (h : LoopQ C bd F) : LoopQ C' bd F := by
  intro K k tm mem o hF hs B w0 env a w Q hr hk
  rw [hP]
  exact h K k tm mem o hF hs B w0 env a w Q (hr.cast hgl.symm hgd.symm) fun e tm' mem' env' a' w' q1 q2 q3 => hk e tm' mem' env' a' w' q1 (q2.cast hgl hgd) q3
theorem cokM {fns : List (Nat × Func)} {ps : PSs} {fs : FSs} {lq : LQs} {sp : List (Nat × Nat × List Int)}
    (h1 : ∀ p ∈ fns, FnOk Tryd.prog p.1 p.2) (h2 : ∀ p ∈ ps, PSOk cM p.1 p.2) (h3 : ∀ p ∈ fs, FOk cM p.1 p.2) (h4 : ∀ p ∈ lq, LoopQ cM p.2.1 p.2.2) : COk (cfgM fns ps fs lq sp) :=
  ⟨mixedM, h1, fun p hp => (h2 p hp).cast rfl rfl rfl, (fun p hp => by cases hp), (fun p hp => by cases hp), (fun p hp => by cases hp), (fun p hp => LoopQ.cast (C := cM) (C' := cfgM fns ps fs lq sp) rfl rfl rfl (h4 p hp)), fun p hp => FOk.cast (C := cM) (C' := cfgM fns ps fs lq sp) rfl rfl rfl (h3 p hp)⟩
theorem upM {fns : List (Nat × Func)} {ps : PSs} {fs : FSs} {lq : LQs} {sp : List (Nat × Nat × List Int)} {g : Nat} {F : List AV → Mem → Option (List Prop × RT)} (h : FOk (cfgM fns ps fs lq sp) g F) : FOk cM g F := FOk.cast (C := cfgM fns ps fs lq sp) (C' := cM) rfl rfl rfl h
theorem upP {fns : List (Nat × Func)} {ps : PSs} {fs : FSs} {lq : LQs} {sp : List (Nat × Nat × List Int)} {g : Nat} {F : List AV → Mem → Option (List Prop × AV)} (h : PSOk (cfgM fns ps fs lq sp) g F) : PSOk cM g F := h.cast rfl rfl rfl
theorem upL {fns : List (Nat × Func)} {ps : PSs} {fs : FSs} {lq : LQs} {sp : List (Nat × Nat × List Int)} {bd : Code} {F : TM → Mem → Option ((AE → TM → Mem → Out) → Out)} (h : LoopQ (cfgM fns ps fs lq sp) bd F) : LoopQ cM bd F := LoopQ.cast (C := cfgM fns ps fs lq sp) (C' := cM) rfl rfl rfl h
theorem mem0 {α : Type} {Q : α → Prop} : ∀ p ∈ ([] : List α), Q p := by intro p hp; cases hp
theorem mem1 {α : Type} {P : α → Prop} {x : α} (h : P x) : ∀ p ∈ [x], P p := by intro p hp; simp only [List.mem_cons, List.not_mem_nil, or_false] at hp; subst hp; exact h
theorem memc {α : Type} {P : α → Prop} {x : α} {l : List α} (h : P x) (hl : ∀ p ∈ l, P p) : ∀ p ∈ x :: l, P p := by
  intro p hp
  rcases List.mem_cons.1 hp with rfl | hp
  · exact h
  · exact hl p hp
theorem ok64 {n : Int} (h1 : -9223372036854775808 ≤ n) (h2 : n ≤ 9223372036854775807) : okI .i64 n := by
  unfold okI; simp [IntKind.min, IntKind.max, IntKind.bits, IntKind.signed]; omega
theorem of_ok64 {n : Int} (h : okI .i64 n) : -9223372036854775808 ≤ n ∧ n ≤ 9223372036854775807 := by
  unfold okI at h; simp [IntKind.min, IntKind.max, IntKind.bits, IntKind.signed] at h; omega
theorem of_oku {n : Int} (h : okI .u64 n) : 0 ≤ n ∧ n ≤ 18446744073709551615 := by
  unfold okI at h; simp [IntKind.min, IntKind.max, IntKind.bits, IntKind.signed] at h; omega
theorem oku {n : Int} (h1 : 0 ≤ n) (h2 : n ≤ 18446744073709551615) : okI .u64 n := by
  unfold okI; simp [IntKind.min, IntKind.max, IntKind.bits, IntKind.signed]; omega
def one (l : List (List Int)) (i : Nat) : Int := (l.getD i []).getD 0 0
def at2 (l : List (List Int)) (i j : Nat) : Int := (l.getD i []).getD j 0

def i64? (x : AV) : Option Int := match x.int with
  | .l .i64 n => some n
  | .s .i64 n => some n
  | _ => none
theorem i64_fits {x : AV} {n : Int} (h : i64? x = some n) : x.fits (.one (.si .i64 n)) := by
  unfold i64? at h
  split at h
  · rename_i n' hx
    cases h
    cases x with
    | one s =>
      cases s <;> simp only [AV.int] at hx <;> first | cases hx
      exact .inr (.inl rfl)
    | agg l => cases hx
    | tup l => cases hx
  · rename_i n' hx
    cases h
    cases x with
    | one s =>
      cases s <;> simp only [AV.int] at hx <;> first | cases hx
      exact .inl rfl
    | agg l => cases hx
    | tup l => cases hx
  · cases h

theorem sel_at {L : List Int} {j : Nat} (h : j < L.length) : sel L (((0 : Nat) : Int) + (j : Int)) = L[j] := by
  unfold sel
  rw [show (((0 : Nat) : Int) + (j : Int)).toNat = j by omega]
  simp [h]
theorem met_b {c : Bool} {ns js : List Nat} (hn : ns.length = 1) (hj : js = []) : RS.met (.p (.c (.b c))) (.p (.c (.b c))) ns js := ⟨rfl, by
  match ns, hn with
  | [x], _ => exact ⟨trivial, trivial⟩, by subst hj; exact List.nodup_nil⟩
/-- One number appended behind n others. -/
def app1 (n : Nat) (L : List Int) (b : Int) (o : R2) : R2 := .need (n = L.length) (.need True (.need ((L ++ [b]).length ≤ 140737488355328 ∧ (L ++ [b]).length * 1 ≤ 140737488355328) o))
def appAll : List Int → Nat → List Int → (Nat → List Int → R2) → R2
  | [], n, L, f => f n L
  | b :: bs, n, L, f => app1 n L b (appAll bs (L ++ [b]).length (L ++ [b]) f)
theorem appAll_sat {K : RS → List Nat → List Nat → Prop} {f : Nat → List Int → R2} : ∀ (bs : List Int) (n : Nat) (L : List Int), n = L.length → L.length + bs.length ≤ 140737488355328 → (f (L ++ bs).length (L ++ bs)).sat K → (appAll bs n L f).sat K
  | [], n, L, hn, _, h => by subst hn; simpa [appAll] using h
  | b :: bs, n, L, hn, hl, h => by
    simp only [List.length_cons] at hl
    refine ⟨hn, trivial, by simp; omega, appAll_sat bs _ (L ++ [b]) rfl (by simp; omega) ?_⟩
    rw [List.append_assoc]
    exact h
def needR : List Prop → R2 → R2
  | [], o => o
  | p :: ps, o => .need p (needR ps o)
theorem needR_sat {K : RS → List Nat → List Nat → Prop} {o : R2} : ∀ {ps : List Prop}, allP ps → o.sat K → (needR ps o).sat K
  | [], _, h => h
  | _ :: _, hp, h => ⟨hp.1, needR_sat hp.2 h⟩
/-- One number behind none. -/
def app0 (b : Int) (o : R2) : R2 := .need (0 < [b].length) (.need (([] ++ [b]).length ≤ 140737488355328 ∧ ([] ++ [b]).length * 1 ≤ 140737488355328) o)
def appAll0 : List Int → (Nat → List Int → R2) → R2
  | [], f => f 0 []
  | b :: bs, f => app0 b (appAll bs ([] ++ [b]).length ([] ++ [b]) f)
def pickR (L : List Int) (n : Nat) (k : Int) (o : R2) : R2 := .need (0 ≤ k) (.need (k < (n : Int)) (.need (0 ≤ ((0 : Nat) : Int) + k) (.need (((0 : Nat) : Int) + k < (L.length : Int)) o)))
def pickAll (L : List Int) (n : Nat) : List Int → Nat → List Int → (Nat → List Int → R2) → R2
  | [], m, M, f => f m M
  | k :: ks, m, M, f => pickR L n k (app1 m M (sel L (((0 : Nat) : Int) + k)) (pickAll L n ks (M ++ [sel L (((0 : Nat) : Int) + k)]).length (M ++ [sel L (((0 : Nat) : Int) + k)]) f))
def pickAll0 (L : List Int) (n : Nat) : List Int → (Nat → List Int → R2) → R2
  | [], f => f 0 []
  | k :: ks, f => pickR L n k (app0 (sel L (((0 : Nat) : Int) + k)) (pickAll L n ks ([] ++ [sel L (((0 : Nat) : Int) + k)]).length ([] ++ [sel L (((0 : Nat) : Int) + k)]) f))
theorem pickAll_sat {K : RS → List Nat → List Nat → Prop} {f : Nat → List Int → R2} {L : List Int} : ∀ (ks : List Int) (m : Nat) (M : List Int), m = M.length → M.length + ks.length ≤ 140737488355328 → (∀ k ∈ ks, 0 ≤ k ∧ k < (L.length : Int)) → (f (M ++ ks.map fun k => sel L (((0 : Nat) : Int) + k)).length (M ++ ks.map fun k => sel L (((0 : Nat) : Int) + k))).sat K → (pickAll L L.length ks m M f).sat K
  | [], m, M, hm, _, _, h => by subst hm; simpa [pickAll] using h
  | k :: ks, m, M, hm, hl, hk, h => by
    simp only [List.length_cons] at hl
    obtain ⟨h1, h2⟩ := hk k (List.mem_cons_self ..)
    refine ⟨h1, h2, by omega, by omega, hm, trivial, by simp; omega, pickAll_sat ks _ _ rfl (by simp; omega) (fun k' hk' => hk k' (List.mem_cons_of_mem _ hk')) ?_⟩
    rw [List.append_assoc]
    exact h
theorem pickAll0_sat {K : RS → List Nat → List Nat → Prop} {f : Nat → List Int → R2} {L : List Int} : ∀ (ks : List Int), ks.length ≤ 140737488355328 → (∀ k ∈ ks, 0 ≤ k ∧ k < (L.length : Int)) → (f (ks.map fun k => sel L (((0 : Nat) : Int) + k)).length (ks.map fun k => sel L (((0 : Nat) : Int) + k))).sat K → (pickAll0 L L.length ks f).sat K
  | [], _, _, h => h
  | k :: ks, hl, hk, h => by
    simp only [List.length_cons] at hl
    obtain ⟨h1, h2⟩ := hk k (List.mem_cons_self ..)
    exact ⟨h1, h2, by omega, by omega, by simp, by simp, pickAll_sat ks _ _ rfl (by simp; omega) (fun k' hk' => hk k' (List.mem_cons_of_mem _ hk')) h⟩
theorem appAll0_sat {K : RS → List Nat → List Nat → Prop} {f : Nat → List Int → R2} : ∀ (bs : List Int), bs.length ≤ 140737488355328 → (f bs.length bs).sat K → (appAll0 bs f).sat K
  | [], _, h => h
  | b :: bs, hl, h => by
    simp only [List.length_cons] at hl
    exact ⟨by simp, by simp, appAll_sat bs _ _ rfl (by simp; omega) h⟩
def lenP (L : List Int) : Prop := L.length ≤ 140737488355328 ∧ L.length * 1 ≤ 140737488355328
theorem wrap8 (x : Int) : IntKind.u8.wrap x = x % 256 := by simp [IntKind.wrap, IntKind.bits, IntKind.signed]
theorem partQ_all (L : List Int) : partQ L 0 L.length = L := by rw [partQ_eq]; simp
def noO : Out := .done (.one (.lb false)) Mem.empty
def yesO : Out := .done (.one (.lb true)) Mem.empty
def sbO (b : Bool) : Out := .done (.one (.sb b)) Mem.empty
theorem eql_d {a b : Int} : cmpI .eql a b = decide (a = b) := by by_cases h : a = b <;> simp [cmpI, h]
end Go.Proofs.YtpaphgdbfbkihaaDoor
