import Derived.Test.YtmiongjabbpmkaaDoorZ13
set_option linter.unusedSimpArgs false
set_option linter.unusedVariables false
namespace Go.Proofs.YtmiongjabbpmkaaDoor
open Go Go.Ax Go.RowKit
set_option linter.unusedSectionVars false
def OutR (sb h0 : Nat) (L : List Int) (v : Value) (w : World) : Prop :=
  (L = [] ∧ v = .slice none 0 0) ∨ (L ≠ [] ∧ ∃ (ob cap : Nat) (rest : List Value), v = .slice (some ⟨ob, 0, none⟩) L.length cap ∧ L.length + rest.length = cap ∧ cap ≤ 9223372036854775807 ∧
    w.heap[ob]? = some (.cells (L.map (Value.int .u8) ++ rest).toArray 5 (0, 0)) ∧ (∀ x ∈ L, okI .u8 x) ∧ ob ≠ sb ∧ h0 ≤ ob)
def TmR (a : Act) (l : List (Nat × Value)) : Prop := a.tmps.size = 73 ∧ ∀ p ∈ l, a.tmps.getD p.1 undef = p.2
def sqY (rN : Nat) (x : Nat → Int) (at_ : Nat) : (Nat → Int) × Nat := if at_ = rN then (Fn (tab 25 x), 0) else (x, at_)
def sqM (rN at_ n : Nat) : Nat := min n (rN - (if at_ = rN then 0 else at_))
def sqz (rN : Nat) : Nat → (Nat → Int) → Nat → Nat → (Nat → Int) × Nat × List Int
  | 0, x, at_, _ => (x, at_, [])
  | f + 1, x, at_, n => if n = 0 then (x, at_, []) else
      ((sqz rN f (sqY rN x at_).1 ((sqY rN x at_).2 + sqM rN at_ n) (n - sqM rN at_ n)).1, (sqz rN f (sqY rN x at_).1 ((sqY rN x at_).2 + sqM rN at_ n) (n - sqM rN at_ n)).2.1,
        tab (sqM rN at_ n) (On (rdL (sqY rN x at_).1 ((sqY rN x at_).2 : Int) (sqM rN at_ n : Int))) ++ (sqz rN f (sqY rN x at_).1 ((sqY rN x at_).2 + sqM rN at_ n) (n - sqM rN at_ n)).2.2)
section
variable [JW]
theorem rel_R {F : List Int → Nat → Int} {X O : List (List Int) → Nat → Int} {sb : Nat} {w0 w : World} {a : Act} {n : Int} {out : SV} {v : Value} {xs : List AB} {es : List Nat} {rate suf at_ : Int} {x : Nat → Int} {rd : Bool}
    (hs : SpAt sb rate suf x at_ rd w) (hgd : GDp gdA (Bw sb w0) w0) (hk : Keep (Bw sb w0) w0 w) (ht : TmR a [(0, .pointer (some ⟨sb, 0, none⟩)), (1, .int .i64 n), (5, .int .i64 0), (6, v)]) (hn : okI .i64 n) (hd : a.defers = [])
    (hv : (AV.one out).R (envX gdA (sb :: es)) (2 + (xs.length + 1)) v) (hx : ∀ (j : Nat) (ab : AB), xs[j]? = some ab → ab.R (envX gdA (sb :: es)) (2 + (xs.length + 1)) (Bw sb w0) w (es.getD j 0))
    (hw : ∀ i ab, xs[i]? = some ab → ab.wr = true → i = 0 ∧ es.getD i 0 ≠ sb) :
    Rel (cRd F X O) (Bw sb w0) w (envX gdA (sb :: es)) (tmR n out) (memX gdA (.cells 66 (cellsS rate suf x (.si .i64 at_) rd) :: xs)) a w := by
  have e0 : envX gdA (sb :: es) 2 = sb := envX_at (gd := gdA) (es := sb :: es) 0
  refine ⟨ht.1, fun t => ?_, by rw [hd]; exact Dfs.nil, MR.focusE rfl (hgd.below hk) (fun b hb => Nat.lt_of_lt_of_le hb.1 hk.grown.size) (fun j ab hj => ?_) fun i j b c hi hj hij hb hc => ?_⟩
  · show ((slots 73 _).get t).R _ _ _
    refine slots_R fun q hq htq => ?_
    subst htq
    simp only [List.mem_cons, List.not_mem_nil, or_false] at hq
    rcases hq with rfl | rfl | rfl | rfl
    · refine ⟨by show 2 < 2 + (xs.length + 1); omega, ?_⟩
      rw [ht.2 (0, .pointer (some ⟨sb, 0, none⟩)) (by simp)]
      show _ = Value.pointer (some ⟨envX gdA (sb :: es) 2, 0, none⟩)
      rw [e0]
    · refine ⟨hn, ?_⟩
      rw [ht.2 (1, .int .i64 n) (by simp)]
      rfl
    · refine ⟨by show okI .i64 _; decide, ?_⟩
      rw [ht.2 (5, .int .i64 0) (by simp)]
      rfl
    · rw [ht.2 (6, v) (by simp)]
      exact hv
  · cases j with
    | zero =>
      cases hj
      exact ⟨spV rate suf x at_ rd, hs.blk, cellsS_R hs.ok, fun h => h.2 rfl⟩
    | succ j => exact hx j ab hj
  · cases i with
    | zero =>
      cases j with
      | zero => exact absurd rfl hij
      | succ j => exact (hw j c hj hc).2.symm
    | succ i =>
      cases j with
      | zero => exact (hw i b hi hb).2
      | succ j => have := (hw i b hi hb).1; have := (hw j c hj hc).1; omega
def chkR (P : AE → List AV → List DE → Nat → Option AB → Option (Nat × Nat × Nat × Nat × Option AB) → Prop) : KR := fun e vs df sz b o => .need (P e vs df sz b o) (.done .any Mem.empty)
def RdEnd (n : Int) (rate suf : Int) (rd : Bool) (E : AE → (Nat → Int) → Int → List Int → Prop) : AE → List AV → List DE → Nat → Option AB → Option (Nat × Nat × Nat × Nat × Option AB) → Prop := fun e vs df sz b o => df = [] ∧ sz = 73 ∧ ∃ x1 a1 L1, E e x1 a1 L1 ∧
  b = some (.cells 66 (cellsS rate suf x1 (.si .i64 a1) rd)) ∧ ((L1 = [] ∧ vs = [.one (.ptr 2 0), .one (.si .i64 n), .one (.li .i64 0), .one (.raw (.slice none 0 0))] ∧ o = none) ∨ (L1 ≠ [] ∧ vs = [.one (.ptr 2 0), .one (.si .i64 n), .one (.li .i64 0)] ∧ ∃ j, o = some (j, j + 1, 0, L1.length, some (.seq 5 .u8 L1 (j + 1)))))
theorem back_R {F : List Int → Nat → Int} {X O : List (List Int) → Nat → Int} {sb : Nat} {es : List Nat} {w0 w w' : World} {env' : Nat → Nat} {tm' : TM} {mem' : Mem} {a' : Act} {e : AE} {m : Nat} {K : AV → Mem → Prop} {n rate suf : Int} {rd : Bool} {E : AE → (Nat → Int) → Int → List Int → Prop}
    (hk0 : Keep (Bw sb w0) w0 w) (hk : (kR (chkR (RdEnd n rate suf rd E)) e tm' mem').sat K) (hr : Rel (cRd F X O) (Bw sb w0) w env' tm' mem' a' w') (hx : Ext (envX gdA (sb :: es)) m env' mem'.n) (hm : 2 < m) :
    ∃ x1 a1 L1 v1, E e x1 a1 L1 ∧ TmR a' [(0, .pointer (some ⟨sb, 0, none⟩)), (1, .int .i64 n), (5, .int .i64 0), (6, v1)] ∧ a'.defers = [] ∧ Keep (Bw sb w0) w0 w' ∧ SpAt sb rate suf x1 a1 rd w' ∧ OutR sb w0.heap.size L1 v1 w' := by
  have e0 : env' 2 = sb := (hx.2 2 hm).trans (envX_at (gd := gdA) (es := sb :: es) 0)
  have hkw : Keep (Bw sb w0) w0 w' := hk0.trans hr.mem.below
  have t0 := hr.tmp 0
  have t1 := hr.tmp 1
  have t5 := hr.tmp 5
  have t6 := hr.tmp 6
  have hdf : tm'.df = [] → a'.defers = [] := fun h => by
    have hdd := hr.defers
    rw [h] at hdd
    cases hq : a'.defers with
    | nil => rfl
    | cons _ _ => rw [hq] at hdd; exact hdd.elim
  have hsp : ∀ {x1 : Nat → Int} {a1 : Int}, mem'.get 2 = some (.cells 66 (cellsS rate suf x1 (.si .i64 a1) rd)) → SpAt sb rate suf x1 a1 rd w' := fun {x1 a1} hb => by
    obtain ⟨vs, h1, h2, _⟩ := hr.mem.blk 2 _ hb
    obtain ⟨rfl, hok⟩ := cellsS_of (.inl rfl) h2
    rw [e0] at h1
    exact ⟨h1, hok⟩
  have htm : ∀ {v1 : Value}, tm'.sz = 73 → tm'.get 0 = .one (.ptr 2 0) → tm'.get 1 = .one (.si .i64 n) → tm'.get 5 = .one (.li .i64 0) → a'.tmps.getD 6 undef = v1 → TmR a' [(0, .pointer (some ⟨sb, 0, none⟩)), (1, .int .i64 n), (5, .int .i64 0), (6, v1)] := fun {v1} hz g0 g1 g5 g6 => by
    rw [g0] at t0; rw [g1] at t1; rw [g5] at t5
    refine ⟨hr.size.trans hz, fun p hp => ?_⟩
    simp only [List.mem_cons, List.not_mem_nil, or_false] at hp
    rcases hp with rfl | rfl | rfl | rfl
    · rw [t0.2]; show Value.pointer (some ⟨env' 2, 0, none⟩) = _; rw [e0]
    · exact t1.2
    · exact t5.2
    · exact g6
  unfold kR at hk
  split at hk
  · rename_i b g o nn h6
    obtain ⟨⟨hdd, hz, x1, a1, L1, hE, hb, hcase⟩, _⟩ := hk
    rcases hcase with ⟨_, hvs, ho⟩ | ⟨hne, hvs, j, ho⟩
    · cases ho
    · simp only [Option.some.injEq, Prod.mk.injEq] at ho
      obtain ⟨rfl, rfl, rfl, rfl, hseq⟩ := ho
      simp only [List.cons.injEq, and_true] at hvs
      rw [h6] at t6
      obtain ⟨⟨_, _⟩, o', ho', hle, hmx, hv⟩ := t6
      obtain ⟨rest, q1, q2, q3, q4, q5⟩ := hr.mem.blk b _ hseq
      have hl1 : 1 ≤ L1.length := by cases L1 with | nil => exact absurd rfl hne | cons _ _ => simp
      have ho0 : o' = 0 := by rcases ho' with h | h <;> omega
      subst ho0
      have hj2 : b ≠ 2 := fun e => by rw [e, hb] at hseq; cases hseq
      have hbs : env' b ≠ sb := by rw [← e0]; exact hr.mem.sep b 2 _ _ hseq hb hj2 rfl rfl
      refine ⟨x1, a1, L1, _, hE, htm hz hvs.1 hvs.2.1 hvs.2.2 hv, hdf hdd, hkw, hsp hb, .inr ⟨hne, env' b, env' (b + 1), rest, by rw [Nat.sub_zero], q2, hmx, q1, q4, hbs, ?_⟩⟩
      rcases Nat.lt_or_ge (env' b) w0.heap.size with h | h
      · exact absurd ⟨h, hbs⟩ q5
      · exact h
  · rename_i v hv6
    split at hk
    · obtain ⟨⟨hdd, hz, x1, a1, L1, hE, hb, hcase⟩, _⟩ := hk
      rcases hcase with ⟨rfl, hvs, _⟩ | ⟨_, hvs, _⟩
      · simp only [List.cons.injEq, and_true] at hvs
        obtain ⟨g0, g1, g5, g6⟩ := hvs
        rw [g6] at t6
        exact ⟨x1, a1, [], _, hE, htm hz g0 g1 g5 t6.2, hdf hdd, hkw, hsp hb, .inl ⟨rfl, rfl⟩⟩
      · simp at hvs
    · exact hk.elim
theorem sub_ok {a b : Int} (h : -9223372036854775808 ≤ a - b) (h2 : a - b ≤ 9223372036854775807) : binI .sub .i64 a b = a - b := by
  show IntKind.i64.wrap _ = _
  exact wrap_ok (by constructor <;> simp [IntKind.min, IntKind.max, IntKind.signed, IntKind.bits] <;> omega)
theorem add_ok {a b : Int} (h : -9223372036854775808 ≤ a + b) (h2 : a + b ≤ 9223372036854775807) : binI .add .i64 a b = a + b := by
  show IntKind.i64.wrap _ = _
  exact wrap_ok (by constructor <;> simp [IntKind.min, IntKind.max, IntKind.signed, IntKind.bits] <;> omega)
def RdE (rN n : Nat) (x : Nat → Int) (at_ : Nat) (L : List Int) : AE → (Nat → Int) → Int → List Int → Prop := fun e x1 a1 L1 =>
  (e = .normal ∧ L.length < n ∧ x1 = (sqY rN x at_).1 ∧ a1 = (((sqY rN x at_).2 + sqM rN at_ (n - L.length) : Nat) : Int) ∧ L1 = L ++ tab (sqM rN at_ (n - L.length)) (On (rdL (sqY rN x at_).1 ((sqY rN x at_).2 : Int) (sqM rN at_ (n - L.length) : Int)))) ∨
  (e = .exit 0 ∧ n ≤ L.length ∧ x1 = x ∧ a1 = (at_ : Int) ∧ L1 = L)
theorem rdK_sat {K : AV → Mem → Prop} {rN n : Nat} {x : Nat → Int} {at_ : Nat} {L : List Int} {suf : Int} {rd : Bool} {j : Nat} {y : Nat → Int} {a2 : Nat} (hy : sqY rN x at_ = (y, a2)) (hlt : L.length < n) (h1 : 1 ≤ sqM rN at_ (n - L.length)) (h200 : a2 + sqM rN at_ (n - L.length) ≤ 200) (hK : K .any Mem.empty) :
    (rdK On (chkR (RdEnd (n : Int) (rN : Int) suf rd (RdE rN n x at_ L))) L (rN : Int) suf rd (n : Int) j y (a2 : Int) (sqM rN at_ (n - L.length) : Int)).sat K := by
  generalize hmm : sqM rN at_ (n - L.length) = m at *
  have hl : (tab ((m : Int).toNat) (On (rdL y (a2 : Int) (m : Int)))).length = m := by simp [tab]
  unfold rdK
  rw [partQ_all, hl, add_ok (by omega) (by omega)]
  refine ⟨⟨rfl, rfl, y, ((a2 + m : Nat) : Int), _, .inl ⟨rfl, hlt, by rw [hy], by rw [hy, hmm], rfl⟩, by simp, .inr ⟨?_, rfl, j, ?_⟩⟩, hK⟩
  · intro e
    have := congrArg List.length e
    simp [tab, hmm] at this
    omega
  · rw [hy, hmm]
    simp
theorem rdN_sat {K : AV → Mem → Prop} {rN n : Nat} {x : Nat → Int} {at_ : Nat} {suf : Int} {rd : Bool} {y : Nat → Int} {a2 : Nat} {mI : Int} (hmI : mI = (sqM rN at_ (n - ([] : List Int).length) : Int)) (hy : sqY rN x at_ = (y, a2)) (hlt : ([] : List Int).length < n) (h1 : 1 ≤ sqM rN at_ (n - ([] : List Int).length)) (h200 : a2 + sqM rN at_ (n - ([] : List Int).length) ≤ 200) (hK : K .any Mem.empty) :
    (rdN On (chkR (RdEnd (n : Int) (rN : Int) suf rd (RdE rN n x at_ []))) (rN : Int) suf rd (n : Int) y (a2 : Int) mI).sat K := by
  subst hmI
  have hl : ∀ l : List (List Int), (tab ((sqM rN at_ (n - ([] : List Int).length) : Int)).toNat (On l)).length = sqM rN at_ (n - ([] : List Int).length) := fun l => by simp [tab]
  unfold rdN
  refine ⟨by omega, by omega, by omega, fun h => ?_, fun _ => ⟨by omega, ?_, ?_, rdK_sat (L := []) hy hlt h1 h200 hK⟩⟩
  · rw [decide_eq_true_iff, hl] at h; omega
  · rw [partQ_all, hl]; omega
  · rw [partQ_all, List.nil_append, hl]; omega
theorem rdS_sat {K : AV → Mem → Prop} {rN n : Nat} {x : Nat → Int} {at_ : Nat} {L : List Int} {suf : Int} {rd : Bool} {y : Nat → Int} {a2 : Nat} {mI : Int} (hmI : mI = (sqM rN at_ (n - L.length) : Int)) (hy : sqY rN x at_ = (y, a2)) (hlt : L.length < n) (hn : n ≤ 1048576) (h1 : 1 ≤ sqM rN at_ (n - L.length)) (h200 : a2 + sqM rN at_ (n - L.length) ≤ 200) (hK : K .any Mem.empty) :
    (rdS On (chkR (RdEnd (n : Int) (rN : Int) suf rd (RdE rN n x at_ L))) L (rN : Int) suf rd (n : Int) y (a2 : Int) mI).sat K := by
  subst hmI
  have hl : ∀ l : List (List Int), (tab ((sqM rN at_ (n - L.length) : Int)).toNat (On l)).length = sqM rN at_ (n - L.length) := fun l => by simp [tab]
  unfold rdS
  refine ⟨by omega, by omega, by omega, rfl, by omega, trivial, ?_, rdK_sat (L := L) hy hlt h1 h200 hK⟩
  rw [partQ_all, List.length_append, hl]; omega
theorem rd_round {rN n at_ sb : Nat} {w0 w : World} {a : Act} {x : Nat → Int} {suf : Int} {rd : Bool} {L : List Int} {v : Value} (hr1 : 1 ≤ rN) (hr200 : rN ≤ 200) (hat : at_ ≤ rN) (hn : n ≤ 1048576)
    (hs : SpAt sb (rN : Int) suf x (at_ : Int) rd w) (hgd : GDp gdA (Bw sb w0) w0) (hk : Keep (Bw sb w0) w0 w) (ht : TmR a [(0, .pointer (some ⟨sb, 0, none⟩)), (1, .int .i64 (n : Int)), (5, .int .i64 0), (6, v)]) (hd : a.defers = []) (ho : OutR sb w0.heap.size L v w) :
    wpJ JW.J loopRd (fun e a' w' => ∃ ae x1 a1 L1 v1, e = ae.conc ∧ RdE rN n x at_ L ae x1 a1 L1 ∧ TmR a' [(0, .pointer (some ⟨sb, 0, none⟩)), (1, .int .i64 (n : Int)), (5, .int .i64 0), (6, v1)] ∧ a'.defers = [] ∧ Keep (Bw sb w0) w0 w' ∧ SpAt sb (rN : Int) suf x1 a1 rd w' ∧ OutR sb w0.heap.size L1 v1 w') a w := by
  have hnn : okI .i64 (n : Int) := by constructor <;> simp [IntKind.min, IntKind.max, IntKind.signed, IntKind.bits] <;> omega
  have hmin : ∀ (l c : Nat), l < n → c ≤ rN → mmI true (binI .sub .i64 (n : Int) (l : Int)) (binI .sub .i64 (rN : Int) (c : Int)) = ((min (n - l) (rN - c) : Nat) : Int) := fun l c h1 h2 => by
    rw [sub_ok (by omega) (by omega), sub_ok (by omega) (by omega), mmI_minI]
    omega
  have hM0 : at_ = rN → sqM rN at_ (n - L.length) = min (n - L.length) (rN - 0) := fun h => by unfold sqM; rw [if_pos h]
  have hM1 : ¬ at_ = rN → sqM rN at_ (n - L.length) = min (n - L.length) (rN - at_) := fun h => by unfold sqM; rw [if_neg h]
  rcases ho with ⟨rfl, rfl⟩ | ⟨hne, ob, cap, rest, rfl, hcap, hmx, hob, hok, hobs, hobh⟩
  · refine exec_ok (K := fun _ _ => True) cokRd 1000 (.run loopRd) _ _ (kR (chkR (RdEnd (n : Int) (rN : Int) suf rd (RdE rN n x at_ [])))) ?_ (Bw sb w0) w _ a w _ (rel_R (es := []) (xs := []) (out := .raw (.slice none 0 0)) (v := .slice none 0 0) hs hgd hk ht hnn hd ⟨rfl, rfl⟩ (fun j ab hj => by simp at hj) (fun i ab hj => by simp at hj)) ?_
    · rw [run_rdNil]
      refine ⟨fun h => ⟨fun h2 => ?_, fun h2 => ?_⟩, fun h => ?_⟩
      · have hlt : 0 < n := by
          have : (0 : Int) < (n : Int) := by simpa [cmpI] using h
          omega
        have he : at_ = rN := by
          have : (at_ : Int) = (rN : Int) := by simpa [cmpI] using h2
          omega
        have hy : sqY rN x at_ = (Fn (tab 25 x), 0) := by unfold sqY; rw [if_pos he]
        have e1 := hmin 0 0 hlt (by omega)
        refine rdN_sat (a2 := 0) (hM0 he ▸ e1) hy hlt (by rw [hM0 he]; simp only [List.length_nil]; omega) (by rw [hM0 he]; simp only [List.length_nil]; omega) trivial
      · have hlt : 0 < n := by
          have : (0 : Int) < (n : Int) := by simpa [cmpI] using h
          omega
        have he : ¬ at_ = rN := by
          have : ¬ (at_ : Int) = (rN : Int) := by simpa [cmpI] using h2
          omega
        have hy : sqY rN x at_ = (x, at_) := by unfold sqY; rw [if_neg he]
        have e1 := hmin 0 at_ hlt (by omega)
        refine rdN_sat (hM1 he ▸ e1) hy hlt (by rw [hM1 he]; simp only [List.length_nil]; omega) (by rw [hM1 he]; simp only [List.length_nil]; omega) trivial
      · have hge : n ≤ 0 := by
          have : ¬ (0 : Int) < (n : Int) := by simpa [cmpI] using h
          omega
        exact ⟨⟨rfl, rfl, x, (at_ : Int), [], .inr ⟨rfl, hge, rfl, rfl, rfl⟩, rfl, .inl ⟨rfl, rfl, rfl⟩⟩, trivial⟩
    · intro ae tm' mem' env' a' w' hk' hr hx
      obtain ⟨x1, a1, L1, v1, q1, q2, q3, q4, q5, q6⟩ := back_R hk hk' hr hx (by show 2 < 2 + 1; omega)
      exact ⟨ae, x1, a1, L1, v1, rfl, q1, q2, q3, q4, q5, q6⟩
  · have e3 : envX gdA (sb :: [ob, cap]) 3 = ob := envX_at (gd := gdA) (es := sb :: [ob, cap]) 1
    have e4 : envX gdA (sb :: [ob, cap]) 4 = cap := envX_at (gd := gdA) (es := sb :: [ob, cap]) 2
    refine exec_ok (K := fun _ _ => True) cokRd 1000 (.run loopRd) _ _ (kR (chkR (RdEnd (n : Int) (rN : Int) suf rd (RdE rN n x at_ L)))) ?_ (Bw sb w0) w _ a w _ (rel_R (es := [ob, cap]) (xs := [.seq 5 .u8 L 4, .gone]) (out := .sq 3 4 0 L.length) (v := .slice (some ⟨ob, 0, none⟩) L.length cap) hs hgd hk ht hnn hd ?_ (fun j ab hj => ?_) (fun i ab hj hw => ?_)) ?_
    · rw [run_rdSeq]
      refine ⟨fun h => ⟨fun h2 => ?_, fun h2 => ?_⟩, fun h => ?_⟩
      · have hlt : L.length < n := by
          have : (L.length : Int) < (n : Int) := by simpa [cmpI] using h
          omega
        have he : at_ = rN := by
          have : (at_ : Int) = (rN : Int) := by simpa [cmpI] using h2
          omega
        have hy : sqY rN x at_ = (Fn (tab 25 x), 0) := by unfold sqY; rw [if_pos he]
        have e1 := hmin L.length 0 hlt (by omega)
        refine rdS_sat (a2 := 0) (hM0 he ▸ e1) hy hlt hn (by rw [hM0 he]; omega) (by rw [hM0 he]; omega) trivial
      · have hlt : L.length < n := by
          have : (L.length : Int) < (n : Int) := by simpa [cmpI] using h
          omega
        have he : ¬ at_ = rN := by
          have : ¬ (at_ : Int) = (rN : Int) := by simpa [cmpI] using h2
          omega
        have hy : sqY rN x at_ = (x, at_) := by unfold sqY; rw [if_neg he]
        have e1 := hmin L.length at_ hlt (by omega)
        refine rdS_sat (hM1 he ▸ e1) hy hlt hn (by rw [hM1 he]; omega) (by rw [hM1 he]; omega) trivial
      · have hge : n ≤ L.length := by
          have : ¬ (L.length : Int) < (n : Int) := by simpa [cmpI] using h
          omega
        exact ⟨⟨rfl, rfl, x, (at_ : Int), L, .inr ⟨rfl, hge, rfl, rfl, rfl⟩, rfl, .inr ⟨hne, rfl, 3, rfl⟩⟩, trivial⟩
    · exact ⟨⟨by show 3 < 5; omega, by show 4 < 5; omega⟩, 0, .inl rfl, by rw [e4]; omega, by rw [e4]; exact hmx, by rw [e3, e4]; rfl⟩
    · match j, hj with
      | 0, hj =>
        cases hj
        exact ⟨rest, hob, by rw [e4]; exact hcap, by show 4 < 5; omega, hok, fun h => absurd h.1 (by show ¬ ob < w0.heap.size; omega)⟩
      | 1, hj => cases hj; trivial
      | j + 2, hj => simp at hj
    · match i, hj with
      | 0, hj => exact ⟨rfl, hobs⟩
      | 1, hj => cases hj; cases hw
      | j + 2, hj => simp at hj
    · intro ae tm' mem' env' a' w' hk' hr hx
      obtain ⟨x1, a1, L1, v1, q1, q2, q3, q4, q5, q6⟩ := back_R hk hk' hr hx (by show 2 < 2 + 3; omega)
      exact ⟨ae, x1, a1, L1, v1, rfl, q1, q2, q3, q4, q5, q6⟩
end
end Go.Proofs.YtmiongjabbpmkaaDoor

namespace Go.Proofs.YtmiongjabbpmkaaDoor
open Go Go.Ax Go.RowKit
set_option linter.unusedSectionVars false
theorem sqz_zero {rN f : Nat} {x : Nat → Int} {at_ : Nat} : sqz rN f x at_ 0 = (x, at_, []) := by cases f <;> rfl
theorem sqY_le {rN at_ k : Nat} {x : Nat → Int} (h : at_ ≤ rN) : (sqY rN x at_).2 + sqM rN at_ k ≤ rN := by
  unfold sqY sqM
  by_cases he : at_ = rN
  · rw [if_pos he, if_pos he]; show 0 + _ ≤ _; omega
  · rw [if_neg he, if_neg he]; show at_ + _ ≤ _; omega
theorem sqM_pos {rN at_ k : Nat} (h : at_ ≤ rN) (hr : 1 ≤ rN) (hk : 1 ≤ k) : 1 ≤ sqM rN at_ k ∧ sqM rN at_ k ≤ k := by
  unfold sqM
  by_cases he : at_ = rN
  · rw [if_pos he]; omega
  · rw [if_neg he]; omega
theorem sqz_step {rN f : Nat} {x : Nat → Int} {at_ k : Nat} (hk : k ≠ 0) : sqz rN (f + 1) x at_ k = ((sqz rN f (sqY rN x at_).1 ((sqY rN x at_).2 + sqM rN at_ k) (k - sqM rN at_ k)).1, (sqz rN f (sqY rN x at_).1 ((sqY rN x at_).2 + sqM rN at_ k) (k - sqM rN at_ k)).2.1,
    tab (sqM rN at_ k) (On (rdL (sqY rN x at_).1 ((sqY rN x at_).2 : Int) (sqM rN at_ k : Int))) ++ (sqz rN f (sqY rN x at_).1 ((sqY rN x at_).2 + sqM rN at_ k) (k - sqM rN at_ k)).2.2) := by rw [sqz, if_neg hk]
theorem sqz_len {rN : Nat} (hr : 1 ≤ rN) : ∀ (f : Nat) (x : Nat → Int) (at_ k : Nat), at_ ≤ rN → k ≤ f → (sqz rN f x at_ k).2.2.length = k ∧ (sqz rN f x at_ k).2.1 ≤ rN := by
  intro f
  induction f with
  | zero => intro x at_ k h hk; obtain rfl : k = 0 := by omega
            exact ⟨rfl, h⟩
  | succ f ih =>
    intro x at_ k h hk
    by_cases h0 : k = 0
    · subst h0; rw [sqz_zero]; exact ⟨rfl, h⟩
    · rw [sqz_step h0]
      obtain ⟨m1, m2⟩ := sqM_pos (k := k) h hr (by omega)
      obtain ⟨q1, q2⟩ := ih (sqY rN x at_).1 ((sqY rN x at_).2 + sqM rN at_ k) (k - sqM rN at_ k) (sqY_le h) (by omega)
      refine ⟨?_, q2⟩
      rw [List.length_append, q1]
      simp [tab]
      omega
section
variable [JW]
theorem rd_loop {rN n sb : Nat} {w0 : World} {suf : Int} {rd : Bool} (hr1 : 1 ≤ rN) (hr200 : rN ≤ 200) (hn : n ≤ 1048576) (hgd : GDp gdA (Bw sb w0) w0) {Q : Exit → Act → World → Prop} :
    ∀ (f at_ : Nat) (x : Nat → Int) (L : List Int) (v : Value) (a : Act) (w : World), n - L.length ≤ f → L.length ≤ n → at_ ≤ rN → SpAt sb (rN : Int) suf x (at_ : Int) rd w → Keep (Bw sb w0) w0 w →
      TmR a [(0, .pointer (some ⟨sb, 0, none⟩)), (1, .int .i64 (n : Int)), (5, .int .i64 0), (6, v)] → a.defers = [] → OutR sb w0.heap.size L v w →
      (∀ a' w' v', TmR a' [(0, .pointer (some ⟨sb, 0, none⟩)), (1, .int .i64 (n : Int)), (5, .int .i64 0), (6, v')] → a'.defers = [] → Keep (Bw sb w0) w0 w' →
        SpAt sb (rN : Int) suf (sqz rN f x at_ (n - L.length)).1 ((sqz rN f x at_ (n - L.length)).2.1 : Int) rd w' → OutR sb w0.heap.size (L ++ (sqz rN f x at_ (n - L.length)).2.2) v' w' → Q (.exit 0) a' w') → InLoopJ JW.J loopRd Q a w := by
  intro f
  induction f with
  | zero =>
    intro at_ x L v a w hf hL hat hs hk ht hd ho hQ
    refine InLoopJ.round (wpJ_mono (rd_round hr1 hr200 hat hn hs hgd hk ht hd ho) ?_)
    rintro e a' w' ⟨ae, x1, a1, L1, v1, rfl, hE, q1, q2, q3, q4, q5⟩
    rcases hE with ⟨rfl, hlt, _⟩ | ⟨rfl, hge, rfl, rfl, rfl⟩
    · omega
    · have h0 : n - L1.length = 0 := by omega
      exact hQ a' w' v1 q1 q2 q3 (by rw [h0]; exact q4) (by rw [h0, sqz_zero, List.append_nil]; exact q5)
  | succ f ih =>
    intro at_ x L v a w hf hL hat hs hk ht hd ho hQ
    refine InLoopJ.round (wpJ_mono (rd_round hr1 hr200 hat hn hs hgd hk ht hd ho) ?_)
    rintro e a' w' ⟨ae, x1, a1, L1, v1, rfl, hE, q1, q2, q3, q4, q5⟩
    rcases hE with ⟨rfl, hlt, rfl, rfl, rfl⟩ | ⟨rfl, hge, rfl, rfl, rfl⟩
    · obtain ⟨m1, m2⟩ := sqM_pos (k := n - L.length) hat hr1 (by omega)
      have hl : (L ++ tab (sqM rN at_ (n - L.length)) (On (rdL (sqY rN x at_).1 ((sqY rN x at_).2 : Int) (sqM rN at_ (n - L.length) : Int)))).length = L.length + sqM rN at_ (n - L.length) := by simp [tab]
      have hsub : n - (L ++ tab (sqM rN at_ (n - L.length)) (On (rdL (sqY rN x at_).1 ((sqY rN x at_).2 : Int) (sqM rN at_ (n - L.length) : Int)))).length = n - L.length - sqM rN at_ (n - L.length) := by rw [hl]; omega
      refine ih _ _ _ v1 a' w' (by omega) (by omega) (sqY_le hat) q4 q3 q1 q2 q5 fun a2 w2 v2 k1 k2 k3 k4 k5 => hQ a2 w2 v2 k1 k2 k3 ?_ ?_
      · rw [sqz_step (by omega)]
        rw [hsub] at k4
        exact k4
      · rw [sqz_step (by omega), ← List.append_assoc]
        rw [hsub] at k5
        exact k5
    · have h0 : n - L1.length = 0 := by omega
      exact hQ a' w' v1 q1 q2 q3 (by rw [h0, sqz_zero]; exact q4) (by rw [h0, sqz_zero, List.append_nil]; exact q5)
theorem outR_mr {C : Cfg} {B : Nat → Prop} {w0 w w' : World} {env : Nat → Nat} {mem : Mem} {b : Nat} {ab : AB} {rate suf a1 : Int} {x1 : Nat → Int} {rd : Bool} {L : List Int} {v : Value} (hm : MR C B w0 env mem w) (hg : mem.get b = some ab) (hw : ab.wr = true)
    (hk : Keep (Bw (env b) w) w w') (hs : SpAt (env b) rate suf x1 a1 rd w') (ho : OutR (env b) w.heap.size L v w') (hL : L ≠ []) :
    ∃ env', MR C B w0 env' ((mem.set b (.cells 66 (cellsS rate suf x1 (.si .i64 a1) rd))).pushS 5 .u8 L) w' ∧ Ext env mem.n env' (mem.n + 2) ∧ (SV.sq mem.n (mem.n + 1) 0 L.length).R env' (mem.n + 2) v := by
  rcases ho with ⟨h, _⟩ | ⟨_, ob, cap, rest, rfl, h1, h2, h3, h4, h5, h6⟩
  · exact absurd h hL
  · have hnB : ¬ B (env b) := (AB.heap_lt (hm.blk b ab hg) hw).2
    have hm1 := MR.swap hm hg hw hk (hs.cells (env := env) (m := mem.n) hnB)
    have hx := Ext.push2 env mem.n ob cap
    have e1 : push2 env mem.n ob cap mem.n = ob := if_pos rfl
    have e2 : push2 env mem.n ob cap (mem.n + 1) = cap := push2_g
    refine ⟨push2 env mem.n ob cap, MR.addS hm1 hm1 (t := 5) (k := .u8) (L := L) (nb := ob) (c := cap) ⟨rest, h3, ?_, by show mem.n + 1 < mem.n + 2; omega, h4, fun hB => ?_⟩ (fun i x hi hx2 => ?_), hx, ⟨by omega, by omega⟩, 0, .inl rfl, ?_, ?_, ?_⟩
    · show _ = push2 env mem.n ob cap (mem.n + 1)
      rw [e2]; exact h1
    · have := hm.base _ hB; omega
    · by_cases hib : i = b
      · subst hib; exact fun e => h5 e.symm
      · simp only [Mem.get, Mem.set] at hi
        rw [Tr.get_set_ne _ _ _ _ (Ne.symm hib)] at hi
        have := (AB.heap_lt (hm.blk i x hi) hx2).1
        omega
    · rw [e2]; omega
    · rw [e2]; exact h2
    · rw [e1, e2]; rfl
end
end Go.Proofs.YtmiongjabbpmkaaDoor

namespace Go.Proofs.YtmiongjabbpmkaaDoor
open Go Go.Ax Go.RowKit
set_option linter.unusedSectionVars false
def rdTm (b : Nat) (n : Int) (x : SV) : TM := slots 73 [(0, .one (.ptr b 0)), (1, .one (.si .i64 n)), (5, .one (.li .i64 0)), (6, .one x)]
def rdQ (T : TypeId) (ZX : Int → List Int → Int → Int → Nat → Int) (ZA : Int → List Int → Int → Int → Int) (ZL : Int → List Int → Int → Int → List Int) : TM → Mem → Option ((AE → TM → Mem → Out) → Out) := fun tm mem =>
  match tm.get 0, (tm.get 1).num, tm.get 5, tm.get 6, tm.df with
  | .one (.ptr b 0), some (.i64, n), .one (.li .i64 0), .one (.raw (.slice none 0 0)), [] => match Nat.beq tm.sz 73, mem.get b with
    | true, some (.cells T' l) => match spP l, Nat.beq T' T with
      | some (rate, suf, es, at_, rd), true => some fun k => .need (0 ≤ at_) (.need (at_ ≤ rate) (.need (1 ≤ rate) (.need (rate ≤ 200) (.need (0 ≤ n) (.need (n ≤ 1048576) (.br (decide (n ≤ 0))
          (k (.exit 0) (rdTm b n (.raw (.slice none 0 0))) (mem.set b (.cells T' l)))
          (k (.exit 0) (rdTm b n (.sq mem.n (mem.n + 1) 0 (ZL rate es at_ n).length)) ((mem.set b (.cells T (cellsS rate suf (ZX rate es at_ n) (.si .i64 (ZA rate es at_ n)) rd))).pushS 5 .u8 (ZL rate es at_ n)))))))))
      | _, _ => none
    | _, _ => none
  | _, _, _, _, _ => none
def rdX (rate : Int) (es : List Int) (at_ n : Int) : Nat → Int := (sqz rate.toNat n.toNat (fun j => es.getD j 0) at_.toNat n.toNat).1
def rdA (rate : Int) (es : List Int) (at_ n : Int) : Int := ((sqz rate.toNat n.toNat (fun j => es.getD j 0) at_.toNat n.toNat).2.1 : Int)
def rdB (rate : Int) (es : List Int) (at_ n : Int) : List Int := (sqz rate.toNat n.toNat (fun j => es.getD j 0) at_.toNat n.toNat).2.2
section
variable [JW]
theorem rdTm_rel {C : Cfg} {B : Nat → Prop} {w0 w' : World} {env' : Nat → Nat} {mem' : Mem} {a' : Act} {b : Nat} {n : Int} {x : SV} {v : Value} (hm : MR C B w0 env' mem' w') (ht : TmR a' [(0, .pointer (some ⟨env' b, 0, none⟩)), (1, .int .i64 n), (5, .int .i64 0), (6, v)]) (hd : a'.defers = []) (hb : b < mem'.n) (hn : okI .i64 n)
    (hx : (AV.one x).R env' mem'.n v) : Rel C B w0 env' (rdTm b n x) mem' a' w' := by
  refine ⟨ht.1, fun t => ?_, by rw [hd]; exact Dfs.nil, hm⟩
  show ((slots 73 _).get t).R _ _ _
  refine slots_R fun q hq htq => ?_
  subst htq
  simp only [List.mem_cons, List.not_mem_nil, or_false] at hq
  rcases hq with rfl | rfl | rfl | rfl
  · refine ⟨hb, ?_⟩
    rw [ht.2 (0, .pointer (some ⟨env' b, 0, none⟩)) (by simp)]
    rfl
  · refine ⟨hn, ?_⟩
    rw [ht.2 (1, .int .i64 n) (by simp)]
    rfl
  · refine ⟨by show okI .i64 _; decide, ?_⟩
    rw [ht.2 (5, .int .i64 0) (by simp)]
    rfl
  · rw [ht.2 (6, v) (by simp)]
    exact hx
theorem lq_Rd {gd : List (Nat × List SV)} (hgA : ∀ p ∈ gdA, p ∈ gd) : LoopQ (cP0 Tryd.prog JW.J gd) loopRd (rdQ 66 rdX rdA rdB) := by
  intro K k tm mem o hF hs B w0 env a w Q hr hk
  unfold rdQ at hF
  split at hF
  · rename_i b n g0 g1 g5 g6 hdf
    split at hF
    · rename_i T' l hsz hg
      split at hF
      · rename_i rate suf es at_ rd hsp hT
        cases hF
        have hT := Nat.eq_of_beq_eq_true hT
        have hsz := Nat.eq_of_beq_eq_true hsz
        subst hT
        obtain ⟨h1, h2, h3, h4, h5, h6, hbr⟩ := hs
        have t0 := hr.tmp 0
        have t1 := hr.tmp 1
        have t5 := hr.tmp 5
        have t6 := hr.tmp 6
        rw [g0] at t0; rw [g5] at t5; rw [g6] at t6
        obtain ⟨hv1, hnok⟩ := num_val g1 t1
        obtain ⟨vs, hW, hcs, hWB⟩ := hr.mem.blk b _ hg
        obtain ⟨rfl, hok, hel⟩ := spP_spec hsp hcs
        obtain ⟨rN, rfl⟩ : ∃ m : Nat, rate = m := ⟨rate.toNat, by omega⟩
        obtain ⟨atN, rfl⟩ : ∃ m : Nat, at_ = m := ⟨at_.toNat, by omega⟩
        obtain ⟨nN, rfl⟩ : ∃ m : Nat, n = m := ⟨n.toNat, by omega⟩
        have hW' : SpAt (env b) (rN : Int) suf (fun j => es.getD j 0) (atN : Int) rd w := ⟨hW, hok⟩
        have hgd : GDp gdA (Bw (env b) w) w := fun p hp => by
          obtain ⟨q1, vs, rs, t, fr, q2, q3⟩ := hr.mem.gd p (hgA p hp)
          exact ⟨⟨hr.mem.base _ q1, fun e => hWB (e ▸ q1)⟩, vs, rs, t, fr, q2, q3⟩
        have hda : a.defers = [] := by
          have hdd := hr.defers
          rw [hdf] at hdd
          cases hq : a.defers with
          | nil => rfl
          | cons _ _ => rw [hq] at hdd; exact hdd.elim
        have ht : TmR a [(0, .pointer (some ⟨env b, 0, none⟩)), (1, .int .i64 (nN : Int)), (5, .int .i64 0), (6, .slice none 0 0)] := ⟨hr.size.trans hsz, fun p hp => by
          simp only [List.mem_cons, List.not_mem_nil, or_false] at hp
          rcases hp with rfl | rfl | rfl | rfl
          · exact t0.2
          · exact hv1
          · exact t5.2
          · exact t6.2⟩
        refine rd_loop (by omega) (by omega) (by omega) hgd nN atN _ [] _ a w (by simp) (by simp) (by omega) hW' (Keep.refl _ _) ht hda (.inl ⟨rfl, rfl⟩) fun a' w' v' k1 k2 k3 k4 k5 => ?_
        have hblt := hr.mem.lt b _ hg
        simp only [List.length_nil, Nat.sub_zero, List.nil_append] at k4 k5
        obtain ⟨z1, _⟩ := sqz_len (rN := rN) (by omega) nN (fun j => es.getD j 0) atN nN (by omega) (Nat.le_refl _)
        by_cases hn0 : nN = 0
        · subst hn0
          rw [sqz_zero] at k4 k5
          have hv' : v' = .slice none 0 0 := by
            rcases k5 with ⟨_, h⟩ | ⟨h, _⟩
            · exact h
            · exact absurd rfl h
          subst hv'
          exact hk (.exit 0) _ _ env a' w' (hbr.1 (by simp)) (rdTm_rel (MR.swap hr.mem hg rfl k3 ⟨_, k4.blk, hcs, hWB⟩) k1 k2 hblt hnok ⟨rfl, rfl⟩) (Ext.refl _ _)
        · have hL : (sqz rN nN (fun j => es.getD j 0) atN nN).2.2 ≠ [] := fun e => by rw [e] at z1; simp at z1; omega
          obtain ⟨env', m1, m2, m3⟩ := outR_mr hr.mem hg rfl k3 k4 k5 hL
          have hk1 : TmR a' [(0, .pointer (some ⟨env' b, 0, none⟩)), (1, .int .i64 (nN : Int)), (5, .int .i64 0), (6, v')] := by rw [m2.2 b hblt]; exact k1
          exact hk (.exit 0) _ _ env' a' w' (hbr.2 (by simp; omega)) (rdTm_rel m1 hk1 k2 (by show b < mem.n + 2; omega) hnok m3) m2
      · cases hF
    · cases hF
  · cases hF
end
end Go.Proofs.YtmiongjabbpmkaaDoor

namespace Go.Proofs.YtmiongjabbpmkaaDoor
open Go Go.Ax
set_option linter.unusedSectionVars false
section
variable [JW]
noncomputable def fnsRd : List (Nat × Func) := [(30, Tryd.f30), (32, Tryd.f32), (31, Tryd.f31)]
abbrev ZXt := Int → List Int → Int → Int → Nat → Int
abbrev ZAt := Int → List Int → Int → Int → Int
abbrev ZLt := Int → List Int → Int → Int → List Int
noncomputable abbrev cRr (F : List Int → Nat → Int) (X O : List (List Int) → Nat → Int) (ZX : ZXt) (ZA : ZAt) (ZL : ZLt) : Cfg := cfgP Tryd.prog JW.J gdA false 2 [0, 1] fnsRd [pFV F] [qLXorV X, qLOutV O] [(6, loopRd, rdQ 66 ZX ZA ZL)] [] []
theorem fnsRd_ok : ∀ p ∈ fnsRd, FnOk Tryd.prog p.1 p.2 := memc ⟨Tryd.func30, by kernel_rfl⟩ (memc ⟨Tryd.func32, by kernel_rfl⟩ (mem1 ⟨Tryd.func31, by kernel_rfl⟩))
theorem cokRr : COk (cRr Fn Xn On rdX rdA rdB) := cokP mixedM JW.hJ fnsRd_ok (mem1 ps_FV) (memc (upD qs_LXor) (mem1 (upD qs_LOut))) (mem1 (lq_Rd fun _ h => h)) mem0
abbrev KV := Option (Nat × Nat × Nat × Nat × Option AB) → Int → Option AB → Out
def kV (kk : KV) : AV → Mem → Out := fun r m => match r with
  | .tup [.one (.sq b g o n), .one (.li .i64 e)] => kk (some (b, g, o, n, m.get b)) e (m.get 2)
  | .tup [.one (.raw (.slice none 0 0)), .one (.li .i64 e)] => kk none e (m.get 2)
  | _ => .bad 78
def rdT (F : List Int → Nat → Int) (X : List (List Int) → Nat → Int) (rate suf : Int) (x : Nat → Int) (at_ : Int) : Nat → Int := F (tab 25 (X [tab 25 (X [tab 25 x, [at_], partQ [IntKind.u8.wrap suf] 0 1]), [binI .sub .i64 rate 1], partQ [128] 0 1]))
def rdF (ZX : ZXt) (ZA : ZAt) (ZL : ZLt) (kk : KV) (rate suf : Int) (es : List Int) (at_ : Int) (rd : Bool) (n : Int) (j : Nat) (c0 : List SV) : Out :=
  .need (loopRd = loopRd) (.need (0 ≤ at_) (.need (at_ ≤ rate) (.need (1 ≤ rate) (.need (rate ≤ 200) (.need (0 ≤ n) (.need (n ≤ 1048576) (.br (decide (n ≤ 0)) (kk none 0 (some (.cells 66 c0)))
    (kk (some (j, j + 1, 0, (ZL rate es at_ n).length, some (.seq 5 .u8 (ZL rate es at_ n) (j + 1)))) 0 (some (.cells 66 (cellsS rate suf (ZX rate es at_ n) (.si .i64 (ZA rate es at_ n)) rd)))))))))))
set_option maxRecDepth 100000 in
theorem run_Rd (F : List Int → Nat → Int) (X O : List (List Int) → Nat → Int) (ZX : ZXt) (ZA : ZAt) (ZL : ZLt) (kk : KV) (n rate suf at_ : Int) (x : Nat → Int) (rd : Bool) :
    exec (cRr F X O ZX ZA ZL) 1000 (.run bodyRd) (TM.enter 73 [.one (.ptr 2 0), .one (.si .i64 n)]) (memX gdA [.cells 66 (cellsS rate suf x (.si .i64 at_) rd)]) (leaveA (cRr F X O ZX ZA ZL) Tryd.f10 (kV kk) fun _ _ => .bad 67) =
      .br (cmpI .geq n 0) (.br (!cmpI .leq n 1048576) (kk none 1 (some (.cells 66 (cellsS rate suf x (.si .i64 at_) rd))))
        (.br (cmpI .gtr n 0)
          (.br (!rd)
            (.need (1 ≤ 1) (.need (0 ≤ at_) (.need (1 ≤ 1) (.need (at_ + 1 ≤ 200) (.need (1 ≤ 1) (.need (0 ≤ binI .sub .i64 rate 1) (.need (1 ≤ 1) (.need (binI .sub .i64 rate 1 + 1 ≤ 200)
              (rdF ZX ZA ZL kk rate suf (tab 25 (rdT F X rate suf x at_)) 0 true n 107 ([.si .i64 rate, .si .i64 suf] ++ (tab 25 (rdT F X rate suf x at_)).map (.si .u64) ++ [.li .i64 0, .lb true]))))))))))
            (rdF ZX ZA ZL kk rate suf (tab 25 x) at_ rd n 3 (cellsS rate suf x (.si .i64 at_) rd)))
          (rdF ZX ZA ZL kk rate suf (tab 25 x) at_ rd n 3 (cellsS rate suf x (.si .i64 at_) rd))))
        (kk none 1 (some (.cells 66 (cellsS rate suf x (.si .i64 at_) rd)))) := by kernel_rfl
end
end Go.Proofs.YtmiongjabbpmkaaDoor

namespace Go.Proofs.YtmiongjabbpmkaaDoor
open Go Go.Ax Go.RowKit
set_option linter.unusedSectionVars false
def RdC (rate suf : Int) (x : Nat → Int) (at_ : Int) (rd : Bool) (n : Int) (e : Int) (x1 : Nat → Int) (a1 : Int) (rd1 : Bool) (L1 : List Int) : Prop :=
  (¬ (0 ≤ n ∧ n ≤ 1048576) ∧ e = 1 ∧ x1 = x ∧ a1 = at_ ∧ rd1 = rd ∧ L1 = []) ∨ (n = 0 ∧ e = 0 ∧ x1 = x ∧ a1 = at_ ∧ rd1 = rd ∧ L1 = []) ∨
  (0 < n ∧ n ≤ 1048576 ∧ e = 0 ∧ x1 = rdX rate (tab 25 (if rd then x else rdT Fn Xn rate suf x at_)) (if rd then at_ else 0) n ∧ a1 = rdA rate (tab 25 (if rd then x else rdT Fn Xn rate suf x at_)) (if rd then at_ else 0) n ∧ rd1 = true ∧
    L1 = rdB rate (tab 25 (if rd then x else rdT Fn Xn rate suf x at_)) (if rd then at_ else 0) n)
theorem rdB_len {rN at_ n : Nat} {es : List Int} (hr : 1 ≤ rN) (h : at_ ≤ rN) : (rdB (rN : Int) es (at_ : Int) (n : Int)).length = n ∧ rdA (rN : Int) es (at_ : Int) (n : Int) ≤ rN ∧ 0 ≤ rdA (rN : Int) es (at_ : Int) (n : Int) := by
  unfold rdB rdA
  simp only [Int.toNat_natCast]
  obtain ⟨h1, h2⟩ := sqz_len hr n (fun j => es.getD j 0) at_ n h (Nat.le_refl _)
  exact ⟨h1, by omega, by omega⟩
section
variable [JW]
def chkV (P : Option (Nat × Nat × Nat × Nat × Option AB) → Int → Option AB → Prop) : KV := fun o e b => .need (P o e b) (.done .any Mem.empty)
def RdP (rate suf : Int) (E : Int → (Nat → Int) → Int → Bool → List Int → Prop) : Option (Nat × Nat × Nat × Nat × Option AB) → Int → Option AB → Prop := fun o e b => ∃ x1 a1 rd1 L1, E e x1 a1 rd1 L1 ∧ b = some (.cells 66 (cellsS rate suf x1 (.si .i64 a1) rd1)) ∧
  ((L1 = [] ∧ o = none) ∨ (L1 ≠ [] ∧ ∃ j, o = some (j, j + 1, 0, L1.length, some (.seq 5 .u8 L1 (j + 1)))))
theorem back_V {C : Cfg} {sb : Nat} {es : List Nat} {w w' : World} {env' : Nat → Nat} {mem' : Mem} {r : AV} {v : Value} {m : Nat} {K : AV → Mem → Prop} {rate suf : Int} {E : Int → (Nat → Int) → Int → Bool → List Int → Prop}
    (hk : (kV (chkV (RdP rate suf E)) r mem').sat K) (hm : MR C (Bw sb w) w env' mem' w') (hx : Ext (envX gdA (sb :: es)) m env' mem'.n) (hm2 : 2 < m) (hR : r.R env' mem'.n v) :
    ∃ e x1 a1 rd1 L1 v1, E e x1 a1 rd1 L1 ∧ v = .tuple #[v1, .int .i64 e] ∧ Keep (Bw sb w) w w' ∧ SpAt sb rate suf x1 a1 rd1 w' ∧ OutR sb w.heap.size L1 v1 w' := by
  have e0 : env' 2 = sb := (hx.2 2 hm2).trans (envX_at (gd := gdA) (es := sb :: es) 0)
  have hsp : ∀ {x1 : Nat → Int} {a1 : Int} {rd : Bool}, mem'.get 2 = some (.cells 66 (cellsS rate suf x1 (.si .i64 a1) rd)) → SpAt sb rate suf x1 a1 rd w' := fun {x1 a1 rd} hb => by
    obtain ⟨vs, h1, h2, _⟩ := hm.blk 2 _ hb
    obtain ⟨rfl, hok⟩ := cellsS_of (.inl rfl) h2
    rw [e0] at h1
    exact ⟨h1, hok⟩
  unfold kV at hk
  split at hk
  · rename_i b g o nn e
    obtain ⟨⟨x1, a1, rd1, L1, hE, hb, hcase⟩, _⟩ := hk
    rcases hcase with ⟨_, ho⟩ | ⟨hne, j, ho⟩
    · cases ho
    · simp only [Option.some.injEq, Prod.mk.injEq] at ho
      obtain ⟨rfl, rfl, rfl, rfl, hseq⟩ := ho
      obtain ⟨vs, rfl, hvs⟩ := hR
      match vs, hvs with
      | [v1, v2], ⟨h1, h2, _⟩ =>
      obtain ⟨⟨_, _⟩, o', ho', hle, hmx, rfl⟩ := h1
      obtain ⟨_, rfl⟩ := h2
      obtain ⟨rest, q1, q2, q3, q4, q5⟩ := hm.blk b _ hseq
      have hl1 : 1 ≤ L1.length := by cases L1 with | nil => exact absurd rfl hne | cons _ _ => simp
      have ho0 : o' = 0 := by rcases ho' with h | h <;> omega
      subst ho0
      have hj2 : b ≠ 2 := fun e => by rw [e, hb] at hseq; cases hseq
      have hbs : env' b ≠ sb := by rw [← e0]; exact hm.sep b 2 _ _ hseq hb hj2 rfl rfl
      refine ⟨e, x1, a1, rd1, L1, _, hE, rfl, hm.below, hsp hb, .inr ⟨hne, env' b, env' (b + 1), rest, by rw [Nat.sub_zero], q2, hmx, q1, q4, hbs, ?_⟩⟩
      rcases Nat.lt_or_ge (env' b) w.heap.size with h | h
      · exact absurd ⟨h, hbs⟩ q5
      · exact h
  · rename_i e
    obtain ⟨⟨x1, a1, rd1, L1, hE, hb, hcase⟩, _⟩ := hk
    rcases hcase with ⟨rfl, _⟩ | ⟨_, j, ho⟩
    · obtain ⟨vs, rfl, hvs⟩ := hR
      match vs, hvs with
      | [v1, v2], ⟨h1, h2, _⟩ =>
      obtain ⟨_, rfl⟩ := h1
      obtain ⟨_, rfl⟩ := h2
      exact ⟨e, x1, a1, rd1, [], _, hE, rfl, hm.below, hsp hb, .inl ⟨rfl, rfl⟩⟩
    · cases ho
  · exact hk.elim
theorem rdF_sat {K : AV → Mem → Prop} {rN a0 : Nat} {suf n : Int} {es : List Int} {rd : Bool} {j : Nat} {c0 : List SV} {E : Int → (Nat → Int) → Int → Bool → List Int → Prop} (h1 : a0 ≤ rN) (h2 : 1 ≤ rN) (h3 : rN ≤ 200) (h4 : 0 ≤ n) (h5 : n ≤ 1048576)
    (hz : n ≤ 0 → RdP (rN : Int) suf E none 0 (some (.cells 66 c0))) (hp : 0 < n → E 0 (rdX (rN : Int) es (a0 : Int) n) (rdA (rN : Int) es (a0 : Int) n) rd (rdB (rN : Int) es (a0 : Int) n)) (hK : K .any Mem.empty) :
    (rdF rdX rdA rdB (chkV (RdP (rN : Int) suf E)) (rN : Int) suf es (a0 : Int) rd n j c0).sat K := by
  refine ⟨rfl, by omega, by omega, by omega, by omega, h4, h5, fun h => ⟨hz (of_decide_eq_true h), hK⟩, fun h => ⟨⟨_, _, rd, _, hp ?_, rfl, .inr ⟨fun e => ?_, j, rfl⟩⟩, hK⟩⟩
  · have := of_decide_eq_false h; omega
  · have hn := of_decide_eq_false h
    obtain ⟨nN, rfl⟩ : ∃ m : Nat, n = m := ⟨n.toNat, by omega⟩
    have := (rdB_len (n := nN) (es := es) h2 h1).1
    rw [e] at this
    simp at this
    omega
set_option maxRecDepth 100000 in
theorem read_calls {sb rN atN : Nat} {w : World} {suf n : Int} {x : Nat → Int} {rd : Bool} (hs : SpAt sb (rN : Int) suf x (atN : Int) rd w) (hgd : GDp gdA (Bw sb w) w) (hn : okI .i64 n) (hr1 : 1 ≤ rN) (hr200 : rN ≤ 200) (hat : atN ≤ rN) (hlt : rd = false → atN < rN) :
    CallsL JW.J 10 #[.pointer (some ⟨sb, 0, none⟩), .int .i64 n] w fun e' w' => ∃ e x1 a1 rd1 L1 v1, RdC (rN : Int) suf x (atN : Int) rd n e x1 a1 rd1 L1 ∧ e' = .returned (.tuple #[v1, .int .i64 e]) ∧ Keep (Bw sb w) w w' ∧ SpAt sb (rN : Int) suf x1 a1 rd1 w' ∧ OutR sb w.heap.size L1 v1 w' := by
  have e0 : envX gdA [sb] 2 = sb := envX_at (gd := gdA) (es := [sb]) 0
  have hm : MR (cRr Fn Xn On rdX rdA rdB) (Bw sb w) w (envX gdA [sb]) (memX gdA [.cells 66 (cellsS (rN : Int) suf x (.si .i64 (atN : Int)) rd)]) w :=
    MR.focusE rfl hgd (fun b hb => hb.1) (fun j ab hj => by
      match j, hj with
      | 0, hj => cases hj; exact ⟨spV (rN : Int) suf x (atN : Int) rd, hs.blk, cellsS_R hs.ok, fun h => h.2 rfl⟩
      | j + 1, hj => simp at hj) (fun i j b c hi hj hij _ _ => by
      match i, j, hi, hj with
      | 0, 0, _, _ => exact absurd rfl hij
      | 0, j + 1, _, hj => simp at hj
      | i + 1, _, hi, _ => simp at hi)
  have ha : All2 (AV.R (envX gdA [sb]) (memX gdA [.cells 66 (cellsS (rN : Int) suf x (.si .i64 (atN : Int)) rd)]).n) [.one (.ptr 2 0), .one (.si .i64 n)] [.pointer (some ⟨sb, 0, none⟩), .int .i64 n] :=
    ⟨⟨by show 2 < 3; omega, by show _ = Value.pointer (some ⟨envX gdA [sb] 2, 0, none⟩); rw [e0]⟩, ⟨hn, rfl⟩, trivial⟩
  have hfb : Tryd.f10.body = some bodyRd := by kernel_rfl
  have hnt : Tryd.f10.ntmps = 73 := by kernel_rfl
  refine (body_calls (K := fun _ _ => True) (kp := fun _ _ => .bad 67) (k := kV (chkV (RdP (rN : Int) suf (RdC (rN : Int) suf x (atN : Int) rd n)))) cokRr (exec_ok cokRr 1000) (g := 10) ⟨Tryd.func10, by kernel_rfl⟩ hfb (args := [.one (.ptr 2 0), .one (.si .i64 n)]) (by rw [hnt]; show 2 ≤ 73; decide) ?_ hm ha
    (S := fun v w' => ∃ e x1 a1 rd1 L1 v1, RdC (rN : Int) suf x (atN : Int) rd n e x1 a1 rd1 L1 ∧ v = .tuple #[v1, .int .i64 e] ∧ Keep (Bw sb w) w w' ∧ SpAt sb (rN : Int) suf x1 a1 rd1 w' ∧ OutR sb w.heap.size L1 v1 w') (Sp := fun _ _ => False)
    (fun r mem' env' v w' q1 q2 q3 q4 => back_V q1 q2 q3 (by show 2 < 3; omega) q4) (fun v mem' env' w' q _ _ => q)).mono fun e' w' he => ?_
  · rw [hnt, run_Rd]
    have same : ∀ {e : Int}, RdC (rN : Int) suf x (atN : Int) rd n e x (atN : Int) rd [] → (chkV (RdP (rN : Int) suf (RdC (rN : Int) suf x (atN : Int) rd n)) none e (some (.cells 66 (cellsS (rN : Int) suf x (.si .i64 (atN : Int)) rd)))).sat (fun _ _ => True) := fun {e} h => ⟨⟨x, (atN : Int), rd, [], h, rfl, .inl ⟨rfl, rfl⟩⟩, trivial⟩
    refine ⟨fun h0 => ⟨fun h1 => same (.inl ⟨?_, rfl, rfl, rfl, rfl, rfl⟩), fun h1 => ?_⟩, fun h0 => same (.inl ⟨?_, rfl, rfl, rfl, rfl, rfl⟩)⟩
    · have : ¬ n ≤ 1048576 := by simpa [cmpI] using h1
      omega
    · have hn0 : 0 ≤ n := by simpa [cmpI] using h0
      have hn1 : n ≤ 1048576 := by simpa [cmpI] using h1
      refine ⟨fun h2 => ⟨fun h3 => ?_, fun h3 => ?_⟩, fun h2 => ?_⟩
      · have hp : 0 < n := by simpa [cmpI] using h2
        have hrd : rd = false := by simpa using h3
        subst hrd
        have hl := hlt rfl
        rw [sub_ok (by omega) (by omega)]
        refine ⟨by omega, by omega, by omega, by omega, by omega, by omega, by omega, by omega, ?_⟩
        exact rdF_sat (a0 := 0) (by omega) hr1 hr200 hn0 hn1 (fun h => by omega) (fun _ => .inr (.inr ⟨hp, hn1, rfl, rfl, rfl, rfl, rfl⟩)) trivial
      · have hp : 0 < n := by simpa [cmpI] using h2
        have hrd : rd = true := by simpa using h3
        subst hrd
        exact rdF_sat hat hr1 hr200 hn0 hn1 (fun h => by omega) (fun _ => .inr (.inr ⟨hp, hn1, rfl, rfl, rfl, rfl, rfl⟩)) trivial
      · have hp : ¬ 0 < n := by simpa [cmpI] using h2
        exact rdF_sat hat hr1 hr200 hn0 hn1 (fun h => ⟨x, (atN : Int), rd, [], .inr (.inl ⟨by omega, rfl, rfl, rfl, rfl, rfl⟩), rfl, .inl ⟨rfl, rfl⟩⟩) (fun h => absurd h hp) trivial
    · have : ¬ 0 ≤ n := by simpa [cmpI] using h0
      omega
  · rcases he with ⟨v, rfl, e, x1, a1, rd1, L1, v1, q1, rfl, q2⟩ | ⟨v, _, hf⟩
    · exact ⟨e, x1, a1, rd1, L1, v1, q1, rfl, q2⟩
    · exact hf.elim
end
end Go.Proofs.YtmiongjabbpmkaaDoor

namespace Go.Proofs.YtmiongjabbpmkaaDoor
open Go Go.Ax Go.RowKit
set_option linter.unusedSectionVars false
abbrev RXt := Int → Int → List Int → Int → Bool → Int → Nat → Int
abbrev RAt := Int → Int → List Int → Int → Bool → Int → Int
abbrev RLt := Int → Int → List Int → Int → Bool → Int → List Int
def readB (T : TypeId) (RX : RXt) (RA : RAt) (RL : RLt) : List AV → Mem → Option ((AV → Mem → Out) → Out) := fun args mem =>
  match args with
  | [.one (.ptr b 0), v] => match v.num, mem.get b with
    | some (.i64, n), some (.cells T' l) => match spP l, Nat.beq T' T with
      | some (rate, suf, es, at_, rd), true => some fun k => .need (0 ≤ at_) (.need (at_ ≤ rate) (.need (1 ≤ rate) (.need (rate ≤ 200) (.need (rd = false → at_ < rate) (.br (decide (0 ≤ n ∧ n ≤ 1048576))
          (.br (decide (n = 0)) (k (.tup [.one (.raw (.slice none 0 0)), .one (.li .i64 0)]) (mem.set b (.cells T' l)))
            (k (.tup [.one (.sq mem.n (mem.n + 1) 0 (RL rate suf es at_ rd n).length), .one (.li .i64 0)]) ((mem.set b (.cells T (cellsS rate suf (RX rate suf es at_ rd n) (.si .i64 (RA rate suf es at_ rd n)) true))).pushS 5 .u8 (RL rate suf es at_ rd n))))
          (k (.tup [.one (.raw (.slice none 0 0)), .one (.li .i64 1)]) (mem.set b (.cells T' l))))))))
      | _, _ => none
    | _, _ => none
  | _ => none
section
variable [JW]
def rqE (rate suf : Int) (es : List Int) (at_ : Int) (rd : Bool) : List Int := tab 25 (if rd then fun j => es.getD j 0 else rdT Fn Xn rate suf (fun j => es.getD j 0) at_)
def rqX : RXt := fun rate suf es at_ rd n => rdX rate (rqE rate suf es at_ rd) (if rd then at_ else 0) n
def rqA : RAt := fun rate suf es at_ rd n => rdA rate (rqE rate suf es at_ rd) (if rd then at_ else 0) n
def rqL : RLt := fun rate suf es at_ rd n => rdB rate (rqE rate suf es at_ rd) (if rd then at_ else 0) n
theorem qb_Read {gd : List (Nat × List SV)} (hgA : ∀ p ∈ gdA, p ∈ gd) : QBk (cP0 Tryd.prog JW.J gd).bare 10 (readB 66 rqX rqA rqL) := by
  refine ⟨⟨Tryd.f10, ⟨Tryd.func10, by kernel_rfl⟩, by kernel_rfl⟩, fun K k args mem o hF hs B w0 w env vals hm ha => ?_⟩
  unfold readB at hF
  split at hF
  · rename_i b v
    split at hF
    · rename_i n T' l hnv hg
      split at hF
      · rename_i rate suf es at_ rd hsp hT
        cases hF
        have hT := Nat.eq_of_beq_eq_true hT
        subst hT
        obtain ⟨h0, hat, hr1, hr200, hlt, hbr⟩ := hs
        match vals, ha with
        | [v1, v2], ⟨⟨hblt, hv1⟩, hx, _⟩ =>
        obtain ⟨vs, hW, hcs, hWB⟩ := hm.blk b _ hg
        obtain ⟨rfl, hok, hel⟩ := spP_spec hsp hcs
        obtain ⟨rfl, hnok⟩ := num_val hnv hx
        have hv1 : v1 = .pointer (some ⟨env b, 0, none⟩) := hv1
        subst hv1
        have hgd : GDp gdA (Bw (env b) w) w := fun p hp => by
          obtain ⟨q1, vs, rs, t, fr, q2, q3⟩ := hm.gd p (hgA p hp)
          exact ⟨⟨hm.base _ q1, fun e => hWB (e ▸ q1)⟩, vs, rs, t, fr, q2, q3⟩
        obtain ⟨rN, rfl⟩ : ∃ n : Nat, rate = n := ⟨rate.toNat, by omega⟩
        obtain ⟨atN, rfl⟩ : ∃ n : Nat, at_ = n := ⟨at_.toNat, by omega⟩
        have hW' : SpAt (env b) (rN : Int) suf (fun j => es.getD j 0) (atN : Int) rd w := ⟨hW, hok⟩
        refine (read_calls hW' hgd hnok (by omega) (by omega) (by omega) (fun e => by have := hlt e; omega)).calls.mono ?_
        rintro e' w' ⟨e, x1, a1, rd1, L1, v1, hC, rfl, hk, hs', ho⟩
        rcases hC with ⟨hbad, rfl, rfl, rfl, rfl, rfl⟩ | ⟨rfl, rfl, rfl, rfl, rfl, rfl⟩ | ⟨hp, hn1, rfl, rfl, rfl, rfl, rfl⟩
        · have hv : v1 = .slice none 0 0 := by
            rcases ho with ⟨_, h⟩ | ⟨h, _⟩
            · exact h
            · exact absurd rfl h
          subst hv
          exact ⟨_, _, _, env, rfl, hbr.2 (by simp only [decide_eq_false_iff_not]; exact hbad), MR.swap hm hg rfl hk ⟨_, hs'.blk, hcs, hWB⟩, Ext.refl _ _, [.slice none 0 0, .int .i64 1], rfl, ⟨rfl, rfl⟩, ⟨by show okI .i64 _; decide, rfl⟩, trivial⟩
        · have hv : v1 = .slice none 0 0 := by
            rcases ho with ⟨_, h⟩ | ⟨h, _⟩
            · exact h
            · exact absurd rfl h
          subst hv
          exact ⟨_, _, _, env, rfl, (hbr.1 (by decide)).1 (by decide), MR.swap hm hg rfl hk ⟨_, hs'.blk, hcs, hWB⟩, Ext.refl _ _, [.slice none 0 0, .int .i64 0], rfl, ⟨rfl, rfl⟩, ⟨by show okI .i64 _; decide, rfl⟩, trivial⟩
        · obtain ⟨nN, rfl⟩ : ∃ m : Nat, n = m := ⟨n.toNat, by omega⟩
          have hL : rdB (rN : Int) (rqE (rN : Int) suf es (atN : Int) rd) (if rd then (atN : Int) else 0) (nN : Int) ≠ [] := fun e => by
            have hl : ∃ aN : Nat, (if rd then (atN : Int) else 0) = (aN : Int) ∧ aN ≤ rN := by
              cases rd
              · exact ⟨0, rfl, by omega⟩
              · exact ⟨atN, rfl, by omega⟩
            obtain ⟨aN, ea, hle⟩ := hl
            rw [ea] at e
            have := (rdB_len (rN := rN) (n := nN) (es := rqE (rN : Int) suf es (atN : Int) rd) (by omega) hle).1
            rw [e] at this
            simp at this
            omega
          obtain ⟨env', m1, m2, m3⟩ := outR_mr hm hg rfl hk hs' ho hL
          exact ⟨_, _, _, env', rfl, (hbr.1 (by simp only [decide_eq_true_eq]; omega)).2 (by simp only [decide_eq_false_iff_not]; omega), m1, m2, [v1, .int .i64 0], rfl, m3, ⟨by show okI .i64 _; decide, rfl⟩, trivial⟩
      · cases hF
    · cases hF
  · cases hF
end
end Go.Proofs.YtmiongjabbpmkaaDoor

namespace Go.Proofs.YtmiongjabbpmkaaDoor
open Go Go.Ax
set_option linter.unusedSectionVars false
section
variable [JW]
def shSg : SH := .grp ([.w .i64, .w .i64] ++ List.replicate 25 (.w .u64) ++ [.w .i64, .b])
def sgA (r s : Int) (x : Nat → Int) (a : Int) (f : Bool) : AV := .agg ([.si .i64 r, .si .i64 s] ++ (tab 25 x).map (.si .u64) ++ [.si .i64 a, .sb f])
noncomputable abbrev cRi : Cfg := cfgM [] [] [] [] []
def Right15T_0 (r : Int) (a : Int) (f : Bool) : R2 :=
  .br (cmpI .geq a (0 : Int)) (.br (cmpI .lss a r) (.leaf (.p (.c (.b true))) [(0 : Nat)] []) (.br (cmpI .eql a r) (.leaf (.p (.c (.b f))) [(0 : Nat)] []) (.leaf (.p (.c (.b false))) [(0 : Nat)] []))) (.leaf (.p (.c (.b false))) [(0 : Nat)] [])
def Right15T_1 (r : Int) (s : Int) (a : Int) (f : Bool) : R2 :=
  .br (cmpI .neq s (4 : Int)) (.br (cmpI .neq s (6 : Int)) (.br (cmpI .neq s (31 : Int)) (.leaf (.p (.c (.b false))) [(0 : Nat)] []) (Right15T_0 r a f)) (Right15T_0 r a f)) (Right15T_0 r a f)
theorem run_Right15 (r s : Int) (x : Nat → Int) (a : Int) (f : Bool) : (callA cRi true 1000 Tryd.f15 [sgA r s x a f] (memX gdM (List.replicate 58 .gone))).view =
    .br (cmpI .neq r (72 : Int)) (.br (cmpI .neq r (104 : Int)) (.br (cmpI .neq r (136 : Int)) (.br (cmpI .neq r (144 : Int)) (.br (cmpI .neq r (168 : Int)) (.leaf (.p (.c (.b false))) [(0 : Nat)] []) (Right15T_1 r s a f)) (Right15T_1 r s a f)) (Right15T_1 r s a f)) (Right15T_1 r s a f)) (Right15T_1 r s a f) := by kernel_rfl
def okP (r s a : Int) (f : Bool) : Bool := decide ((r = 72 ∨ r = 104 ∨ r = 136 ∨ r = 144 ∨ r = 168) ∧ (s = 4 ∨ s = 6 ∨ s = 31) ∧ 0 ≤ a ∧ (a < r ∨ (a = r ∧ f = true)))
def T_Rt (l : List (List Int)) : Bool := okP (one l 0) (one l 1) (one l 27) (one l 28 != 0)
def qRtV (T : List (List Int) → Bool) := (15, fsum [shSg] (fun _ => []) fun l => .one (.p (.c (.b (T l)))))
theorem lfB {b c : Bool} (h : b = c) : (R2.leaf (.p (.c (.b b))) [(0 : Nat)] []).sat (RS.met (.p (.c (.b c)))) := by
  subst h
  exact ⟨rfl, ⟨trivial, trivial⟩, by simp⟩
theorem rt0_sat {r s a : Int} {f : Bool} (hr : r = 72 ∨ r = 104 ∨ r = 136 ∨ r = 144 ∨ r = 168) (hs : s = 4 ∨ s = 6 ∨ s = 31) : (Right15T_0 r a f).sat (RS.met (.p (.c (.b (okP r s a f))))) := by
  unfold Right15T_0
  refine ⟨fun h1 => ⟨fun h2 => lfB ?_, fun h2 => ⟨fun h3 => lfB ?_, fun h3 => lfB ?_⟩⟩, fun h1 => lfB ?_⟩
  · have h1 : a ≥ 0 := by simpa [cmpI] using h1
    have h2 : a < r := by simpa [cmpI] using h2
    exact (decide_eq_true ⟨hr, hs, h1, .inl h2⟩).symm
  · have h1 : a ≥ 0 := by simpa [cmpI] using h1
    have h2 : ¬ a < r := by simpa [cmpI] using h2
    have h3 : a = r := by simpa [cmpI] using h3
    cases f
    · exact (decide_eq_false fun h => by rcases h.2.2.2 with h | h; exact h2 h; exact absurd h.2 (by simp)).symm
    · exact (decide_eq_true ⟨hr, hs, h1, .inr ⟨h3, rfl⟩⟩).symm
  · have h2 : ¬ a < r := by simpa [cmpI] using h2
    have h3 : ¬ a = r := by simpa [cmpI] using h3
    exact (decide_eq_false fun h => by rcases h.2.2.2 with h | h; exact h2 h; exact h3 h.1).symm
  · have h1 : ¬ a ≥ 0 := by simpa [cmpI] using h1
    exact (decide_eq_false fun h => h1 h.2.2.1).symm
theorem rt1_sat {r s a : Int} {f : Bool} (hr : r = 72 ∨ r = 104 ∨ r = 136 ∨ r = 144 ∨ r = 168) : (Right15T_1 r s a f).sat (RS.met (.p (.c (.b (okP r s a f))))) := by
  unfold Right15T_1
  have ne : ∀ {x y : Int}, cmpI .neq x y = true → ¬ x = y := fun h => by simpa [cmpI] using h
  have eq : ∀ {x y : Int}, cmpI .neq x y = false → x = y := fun h => by simpa [cmpI] using h
  exact ⟨fun h1 => ⟨fun h2 => ⟨fun h3 => lfB (decide_eq_false fun h => by rcases h.2.1 with h | h | h <;> first | exact ne h1 h | exact ne h2 h | exact ne h3 h).symm, fun h3 => rt0_sat hr (.inr (.inr (eq h3)))⟩, fun h2 => rt0_sat hr (.inr (.inl (eq h2)))⟩, fun h1 => rt0_sat hr (.inl (eq h1))⟩
theorem fn_Rt : FnOk Tryd.prog 15 Tryd.f15 := ⟨Tryd.func15, by kernel_rfl⟩
theorem qs_Rt : FOk cM (qRtV T_Rt).1 (qRtV T_Rt).2 :=
  upM (fok_view (C := cRi) (shs := [shSg]) (T := fun l => .one (.p (.c (.b (T_Rt l))))) (conds := fun _ => []) (cokM mem0 mem0 mem0 mem0) rfl rfl fn_Rt (by kernel_rfl) 1000 fun Ms _ _ =>
    ⟨_, run_Right15 ((Ms 0).getD 0 0) ((Ms 1).getD 0 0) (fun i => (Ms (2 + i)).getD 0 0) ((Ms 27).getD 0 0) ((Ms 28).getD 0 0 != 0), by
      show R2.sat (RS.met (.p (.c (.b (okP ((Ms 0).getD 0 0) ((Ms 1).getD 0 0) ((Ms 27).getD 0 0) ((Ms 28).getD 0 0 != 0)))))) _
      have ne : ∀ {x y : Int}, cmpI .neq x y = true → ¬ x = y := fun h => by simpa [cmpI] using h
      have eq : ∀ {x y : Int}, cmpI .neq x y = false → x = y := fun h => by simpa [cmpI] using h
      exact ⟨fun h1 => ⟨fun h2 => ⟨fun h3 => ⟨fun h4 => ⟨fun h5 => lfB (decide_eq_false fun h => by rcases h.1 with h | h | h | h | h <;> first | exact ne h1 h | exact ne h2 h | exact ne h3 h | exact ne h4 h | exact ne h5 h).symm, fun h5 => rt1_sat (.inr (.inr (.inr (.inr (eq h5)))))⟩,
        fun h4 => rt1_sat (.inr (.inr (.inr (.inl (eq h4)))))⟩, fun h3 => rt1_sat (.inr (.inr (.inl (eq h3))))⟩, fun h2 => rt1_sat (.inr (.inl (eq h2)))⟩, fun h1 => rt1_sat (.inl (eq h1))⟩⟩)
end
end Go.Proofs.YtmiongjabbpmkaaDoor

namespace Go.Proofs.YtmiongjabbpmkaaDoor
open Go Go.Ax Go.RowKit
set_option linter.unusedSectionVars false
section
variable [JW]
noncomputable def fnsFr : List (Nat × Func) := [(37, Tryd.f37), (54, Tryd.f54)]
noncomputable abbrev cFr : Cfg := cfgP Tryd.prog JW.J gdM true 2 (List.range 40) fnsFr [] [] [] [] []
theorem cokFr : COk cFr := cokP mixedM JW.hJ (memc ⟨Tryd.func37, by kernel_rfl⟩ (mem1 ⟨Tryd.func54, by kernel_rfl⟩)) mem0 mem0 mem0 mem0
abbrev KF := Option (Nat × Option AB) → Int → Out
def kF (kk : KF) : AV → Mem → Out := fun r m => match r with
  | .tup [.one (.ptr b 0), .one (.li .i64 e)] => kk (some (b, m.get b)) e
  | .tup [.one (.raw (.pointer none)), .one (.li .i64 e)] => kk none e
  | _ => .bad 78
noncomputable def bodyFr : Code := Tryd.f14.body.getD .skip
def frOk (kk : KF) (r s : Int) (x : Nat → Int) (a : Int) (f : Bool) : Out := kk (some (3, some (.cells 66 (cellsS r s x (.si .i64 a) f)))) 0
def frT2 (kk : KF) (r s : Int) (x : Nat → Int) (a : Int) (f : Bool) : Out := .br (cmpI .lss a 0) (kk none 1) (.br (cmpI .gtr a r) (kk none 1) (.br (cmpI .eql a r) (.br (!f) (kk none 1) (frOk kk r s x a f)) (frOk kk r s x a f)))
def frT1 (kk : KF) (r s : Int) (x : Nat → Int) (a : Int) (f : Bool) : Out := .br (cmpI .eql s 4) (frT2 kk r s x a f) (.br (cmpI .eql s 6) (frT2 kk r s x a f) (.br (cmpI .eql s 31) (frT2 kk r s x a f) (kk none 1)))
set_option maxRecDepth 100000 in
theorem run_From (kk : KF) (r s : Int) (x : Nat → Int) (a : Int) (f : Bool) :
    exec cFr 1000 (.run bodyFr) (TM.enter Tryd.f14.ntmps [.one (.si .i64 r), .one (.si .i64 s), .agg ((tab 25 x).map (.si .u64)), .one (.si .i64 a), .one (.sb f)]) (memG gdM) (leaveA cFr Tryd.f14 (kF kk) fun _ _ => .bad 67) =
      .br (cmpI .eql r 72) (frT1 kk r s x a f) (.br (cmpI .eql r 104) (frT1 kk r s x a f) (.br (cmpI .eql r 136) (frT1 kk r s x a f) (.br (cmpI .eql r 144) (frT1 kk r s x a f) (.br (cmpI .eql r 168) (frT1 kk r s x a f) (kk none 1))))) := by kernel_rfl
def chkF (P : Option (Nat × Option AB) → Int → Prop) : KF := fun o e => .need (P o e) (.done .any Mem.empty)
def FrP (r s : Int) (x : Nat → Int) (a : Int) (f : Bool) : Option (Nat × Option AB) → Int → Prop := fun o e => (okP r s a f = true ∧ e = 0 ∧ ∃ j, o = some (j, some (.cells 66 (cellsS r s x (.si .i64 a) f)))) ∨ (okP r s a f = false ∧ e = 1 ∧ o = none)
theorem frT2_sat {r s : Int} {x : Nat → Int} {a : Int} {f : Bool} (hr : r = 72 ∨ r = 104 ∨ r = 136 ∨ r = 144 ∨ r = 168) (hs : s = 4 ∨ s = 6 ∨ s = 31) : (frT2 (chkF (FrP r s x a f)) r s x a f).sat fun _ _ => True := by
  have ok : okP r s a f = true → (frOk (chkF (FrP r s x a f)) r s x a f).sat fun _ _ => True := fun h => ⟨.inl ⟨h, rfl, 3, rfl⟩, trivial⟩
  have no : okP r s a f = false → (chkF (FrP r s x a f) none 1).sat fun _ _ => True := fun h => ⟨.inr ⟨h, rfl, rfl⟩, trivial⟩
  refine ⟨fun h1 => no ?_, fun h1 => ⟨fun h2 => no ?_, fun h2 => ⟨fun h3 => ⟨fun h4 => no ?_, fun h4 => ok ?_⟩, fun h3 => ok ?_⟩⟩⟩
  · have h1 : a < 0 := by simpa [cmpI] using h1
    exact decide_eq_false fun h => by have := h.2.2.1; omega
  · have h2 : a > r := by simpa [cmpI] using h2
    exact decide_eq_false fun h => by have := h.2.2.2; omega
  · have h3 : a = r := by simpa [cmpI] using h3
    have h4 : f = false := by simpa using h4
    exact decide_eq_false fun h => by rcases h.2.2.2 with h | h; omega; rw [h4] at h; cases h.2
  · have h1 : ¬ a < 0 := by simpa [cmpI] using h1
    have h3 : a = r := by simpa [cmpI] using h3
    have h4 : f = true := by simpa using h4
    exact decide_eq_true ⟨hr, hs, by omega, .inr ⟨h3, h4⟩⟩
  · have h1 : ¬ a < 0 := by simpa [cmpI] using h1
    have h2 : ¬ a > r := by simpa [cmpI] using h2
    have h3 : ¬ a = r := by simpa [cmpI] using h3
    exact decide_eq_true ⟨hr, hs, by omega, .inl (by omega)⟩
theorem frT1_sat {r s : Int} {x : Nat → Int} {a : Int} {f : Bool} (hr : r = 72 ∨ r = 104 ∨ r = 136 ∨ r = 144 ∨ r = 168) : (frT1 (chkF (FrP r s x a f)) r s x a f).sat fun _ _ => True := by
  have eq : ∀ {x y : Int}, cmpI .eql x y = true → x = y := fun h => by simpa [cmpI] using h
  have ne : ∀ {x y : Int}, cmpI .eql x y = false → ¬ x = y := fun h => by simpa [cmpI] using h
  exact ⟨fun h => frT2_sat hr (.inl (eq h)), fun h1 => ⟨fun h => frT2_sat hr (.inr (.inl (eq h))), fun h2 => ⟨fun h => frT2_sat hr (.inr (.inr (eq h))), fun h3 => ⟨.inr ⟨decide_eq_false fun h => by rcases h.2.1 with h | h | h <;> first | exact ne h1 h | exact ne h2 h | exact ne h3 h, rfl, rfl⟩, trivial⟩⟩⟩⟩
theorem from_calls {w : World} {r s a : Int} {x : Nat → Int} {f : Bool} (hok : SpOk r s x a) :
    CallsL JW.J 14 #[.int .i64 r, .int .i64 s, .agg ((tab 25 x).map (Value.int .u64)).toArray, .int .i64 a, .bool f] w fun e w' => Below w.heap.size w w' ∧
      ((okP r s a f = true ∧ ∃ nb, e = .returned (.tuple #[.pointer (some ⟨nb, 0, none⟩), .int .i64 0]) ∧ w.heap.size ≤ nb ∧ SpAt nb r s x a f w') ∨ (okP r s a f = false ∧ e = .returned (.tuple #[.pointer none, .int .i64 1]))) := by
  have hm : MR cFr (· < w.heap.size) w (envG gdM) (memG gdM) w := MR.start (C := cFr) rfl (fun p hp => by cases hp) (fun _ hb => hb)
  have ha : All2 (AV.R (envG gdM) (memG gdM).n) [.one (.si .i64 r), .one (.si .i64 s), .agg ((tab 25 x).map (.si .u64)), .one (.si .i64 a), .one (.sb f)] [.int .i64 r, .int .i64 s, .agg ((tab 25 x).map (Value.int .u64)).toArray, .int .i64 a, .bool f] :=
    ⟨⟨hok.r, rfl⟩, ⟨hok.s, rfl⟩, ⟨_, rfl, all2_si hok.x⟩, ⟨hok.a, rfl⟩, ⟨trivial, rfl⟩, trivial⟩
  have hfb : Tryd.f14.body = some bodyFr := by kernel_rfl
  refine (body_calls (K := fun _ _ => True) (kp := fun _ _ => .bad 67) (k := kF (chkF (FrP r s x a f))) cokFr (exec_ok cokFr 1000) (g := 14) ⟨Tryd.func14, by kernel_rfl⟩ hfb (args := [.one (.si .i64 r), .one (.si .i64 s), .agg ((tab 25 x).map (.si .u64)), .one (.si .i64 a), .one (.sb f)]) (Nat.le_of_ble_eq_true (by kernel_rfl : Nat.ble 5 Tryd.f14.ntmps = true)) ?_ hm ha
    (S := fun v w' => Below w.heap.size w w' ∧ ((okP r s a f = true ∧ ∃ nb, v = .tuple #[.pointer (some ⟨nb, 0, none⟩), .int .i64 0] ∧ w.heap.size ≤ nb ∧ SpAt nb r s x a f w') ∨ (okP r s a f = false ∧ v = .tuple #[.pointer none, .int .i64 1]))) (Sp := fun _ _ => False)
    (fun q mem' env' v w' q1 q2 q3 q4 => ?_) (fun v mem' env' w' q _ _ => q)).mono fun e' w' he => ?_
  · rw [run_From]
    have eq : ∀ {x y : Int}, cmpI .eql x y = true → x = y := fun h => by simpa [cmpI] using h
    have ne : ∀ {x y : Int}, cmpI .eql x y = false → ¬ x = y := fun h => by simpa [cmpI] using h
    exact ⟨fun h => frT1_sat (.inl (eq h)), fun h1 => ⟨fun h => frT1_sat (.inr (.inl (eq h))), fun h2 => ⟨fun h => frT1_sat (.inr (.inr (.inl (eq h)))), fun h3 => ⟨fun h => frT1_sat (.inr (.inr (.inr (.inl (eq h))))), fun h4 => ⟨fun h => frT1_sat (.inr (.inr (.inr (.inr (eq h))))), fun h5 =>
      ⟨.inr ⟨decide_eq_false fun h => by rcases h.1 with h | h | h | h | h <;> first | exact ne h1 h | exact ne h2 h | exact ne h3 h | exact ne h4 h | exact ne h5 h, rfl, rfl⟩, trivial⟩⟩⟩⟩⟩⟩
  · refine ⟨q2.below.below, ?_⟩
    unfold kF at q1
    split at q1
    · rename_i b e
      obtain ⟨⟨h1, rfl, j, ho⟩ | ⟨_, _, ho⟩, _⟩ := q1
      · simp only [Option.some.injEq, Prod.mk.injEq] at ho
        obtain ⟨rfl, hb⟩ := ho
        obtain ⟨vs, rfl, hvs⟩ := q4
        match vs, hvs with
        | [v1, v2], ⟨k1, k2, _⟩ =>
        obtain ⟨_, rfl⟩ := k1
        obtain ⟨_, rfl⟩ := k2
        obtain ⟨vs, p1, p2, p3⟩ := q2.blk b _ hb
        obtain ⟨rfl, p4⟩ := cellsS_of (.inl rfl) p2
        exact .inl ⟨h1, env' b, rfl, Nat.le_of_not_lt p3, p1, p4⟩
      · cases ho
    · rename_i e
      obtain ⟨⟨_, _, j, ho⟩ | ⟨h1, rfl, _⟩, _⟩ := q1
      · cases ho
      · obtain ⟨vs, rfl, hvs⟩ := q4
        match vs, hvs with
        | [v1, v2], ⟨k1, k2, _⟩ =>
        obtain ⟨_, rfl⟩ := k1
        obtain ⟨_, rfl⟩ := k2
        exact .inr ⟨h1, rfl⟩
    · exact q1.elim
  · rcases he with ⟨v, rfl, h1, h2⟩ | ⟨v, _, hf⟩
    · refine ⟨h1, h2.imp (fun ⟨k1, nb, k2, k3⟩ => ⟨k1, nb, by rw [k2], k3⟩) fun ⟨k1, k2⟩ => ⟨k1, by rw [k2]⟩⟩
    · exact hf.elim
end
end Go.Proofs.YtmiongjabbpmkaaDoor

namespace Go.Proofs.YtmiongjabbpmkaaDoor
open Go Go.Ax Go.RowKit
set_option linter.unusedSectionVars false
theorem MR.addB {C : Cfg} {B : Nat → Prop} {w0 w w' : World} {env : Nat → Nat} {mem : Mem} {ab : AB} {nb : Nat} (h : MR C B w0 env mem w) (hbl : Below w.heap.size w w') (hnb : w.heap.size ≤ nb) (hb : ab.R (envPush env mem.n nb) (mem.n + 1) B w' nb) :
    MR C B w0 (envPush env mem.n nb) (mem.push ab) w' := by
  have hx := Ext.push env mem.n nb
  have hold : ∀ i x, i ≠ mem.n → (mem.push ab).get i = some x → mem.get i = some x := fun i x hi hg => by
    simp only [Mem.get, Mem.push] at hg ⊢
    rw [Tr.get_set_ne _ _ _ _ (Ne.symm hi)] at hg
    exact hg
  have hnew : ∀ x, (mem.push ab).get mem.n = some x → x = ab := fun x hg => Tr.get_set_eq _ _ _ _ hg
  have he : envPush env mem.n nb mem.n = nb := if_pos rfl
  have he' : ∀ i, i ≠ mem.n → envPush env mem.n nb i = env i := fun i hi => by unfold envPush; rw [if_neg hi]
  refine ⟨h.below.trans (.of hbl h.base), fun b hB => Nat.lt_of_lt_of_le (h.base b hB) hbl.size, fun i x hg => ?_, fun i x hg => ?_, fun i j x y hi hj hij hx' hy' => ?_, fun p hp => ?_, h.gd.below (.of hbl h.base)⟩
  · show i < mem.n + 1
    by_cases hi : i = mem.n
    · omega
    · have := h.lt i x (hold i x hi hg); omega
  · by_cases hi : i = mem.n
    · subst hi
      obtain rfl := hnew x hg
      rw [he]; exact hb
    · rw [he' i hi]
      exact AB.R_ext hx (AB.R_below (h.blk i x (hold i x hi hg)) hbl)
  · by_cases hi' : i = mem.n
    · by_cases hj' : j = mem.n
      · exact absurd (hi'.trans hj'.symm) hij
      · rw [hi', he, he' j hj']
        have := (AB.heap_lt (h.blk j y (hold j y hj' hj)) hy').1
        omega
    · rw [he' i hi']
      have hlt := (AB.heap_lt (h.blk i x (hold i x hi' hi)) hx').1
      by_cases hj' : j = mem.n
      · rw [hj', he]; omega
      · rw [he' j hj']
        exact h.sep i j x y (hold i x hi' hi) (hold j y hj' hj) hij hx' hy'
  · obtain ⟨q1, q2⟩ := h.gl p hp
    exact ⟨by rw [he' p.2 (by omega)]; exact q1, by show p.2 < mem.n + 1; omega⟩
def fromB (T : TypeId) (ok : Int → Int → Int → Bool → Bool) : List AV → Mem → Option ((AV → Mem → Out) → Out) := fun args mem =>
  match args with
  | [v1, v2, .agg l, v4, v5] => match v1.num, v2.num, intsOf .u64 l, v4.num, v5.bool? with
    | some (.i64, r), some (.i64, s), some es, some (.i64, a), some (_, f) => match Nat.beq es.length 25 with
      | true => some fun k => .br (ok r s a f) (k (.tup [.one (.ptr mem.n 0), .one (.li .i64 0)]) (mem.push (.cells T (cellsS r s (fun j => es.getD j 0) (.si .i64 a) f)))) (k (.tup [.one (.raw (.pointer none)), .one (.li .i64 1)]) mem)
      | false => none
    | _, _, _, _, _ => none
  | _ => none
section
variable [JW]
theorem tab_es {es : List Int} (h : es.length = 25) : tab 25 (fun j => es.getD j 0) = es := by
  have := take_tab (L := es) (m := 25) (by omega)
  rw [List.take_of_length_le (by omega)] at this
  exact this.symm
theorem qb_From {gd : List (Nat × List SV)} : QBk (cP0 Tryd.prog JW.J gd).bare 14 (fromB 66 okP) := by
  refine ⟨⟨Tryd.f14, ⟨Tryd.func14, by kernel_rfl⟩, by kernel_rfl⟩, fun K k args mem o hF hs B w0 w env vals hm ha => ?_⟩
  unfold fromB at hF
  split at hF
  · rename_i v1 v2 l v4 v5
    split at hF
    · rename_i r s es a x f g1 g2 g3 g4 g5
      split at hF
      · rename_i hl
        cases hF
        have hl := Nat.eq_of_beq_eq_true hl
        obtain ⟨hb1, hb2⟩ := hs
        match vals, ha with
        | [u1, u2, u3, u4, u5], ⟨a1, a2, a3, a4, a5, _⟩ =>
        obtain ⟨rfl, k1⟩ := num_val g1 a1
        obtain ⟨rfl, k2⟩ := num_val g2 a2
        obtain ⟨vs, rfl, hvs⟩ := a3
        obtain ⟨rfl, k3⟩ := intsOf_R g3 hvs
        obtain ⟨rfl, k4⟩ := num_val g4 a4
        have hbb : u5 = .bool f := by
          refine bool_val (x := v5) ?_ a5
          unfold AV.bool? at g5
          split at g5
          · cases g5; exact .inl (by assumption)
          · cases g5; exact .inr (by assumption)
          · cases g5
        subst hbb
        have hok : SpOk r s (fun j => es.getD j 0) a := ⟨k1, k2, by rw [tab_es hl]; exact k3, k4⟩
        have h := from_calls (w := w) (f := f) hok
        rw [tab_es hl] at h
        refine h.calls.mono ?_
        rintro e w' ⟨hbl, ⟨h1, nb, rfl, hnb, hsp⟩ | ⟨h1, rfl⟩⟩
        · have e1 : envPush env mem.n nb mem.n = nb := if_pos rfl
          refine ⟨_, _, _, envPush env mem.n nb, rfl, hb1 h1, MR.addB hm hbl hnb (hsp.cells fun hB => ?_), Ext.push _ _ _, [.pointer (some ⟨nb, 0, none⟩), .int .i64 0], rfl, ⟨by show mem.n < mem.n + 1; omega, by show _ = Value.pointer (some ⟨envPush env mem.n nb mem.n, 0, none⟩); rw [e1]⟩, ⟨by show okI .i64 _; decide, rfl⟩, trivial⟩
          have := hm.base _ hB
          omega
        · exact ⟨_, _, _, env, rfl, hb2 h1, hm.later hbl, Ext.refl _ _, [.pointer none, .int .i64 1], rfl, ⟨rfl, rfl⟩, ⟨by show okI .i64 _; decide, rfl⟩, trivial⟩
      · cases hF
    · cases hF
  · cases hF
end
end Go.Proofs.YtmiongjabbpmkaaDoor
