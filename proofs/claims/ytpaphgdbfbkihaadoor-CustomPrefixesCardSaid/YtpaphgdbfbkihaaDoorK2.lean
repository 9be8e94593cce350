/- Packages bytes, slices, code: equal bytes, copies, a number at the right, texts, padding. -/
import Derived.Test.YtpaphgdbfbkihaaDoorK1
namespace Go.Proofs.YtpaphgdbfbkihaaDoor
open Go Go.Ax

theorem fn_Equal : FnOk Tryd.prog 43 Tryd.f43 := ⟨Tryd.func43, by kernel_rfl⟩
theorem fn_Clone : FnOk Tryd.prog 45 Tryd.f45 := ⟨Tryd.func45, by kernel_rfl⟩
theorem fn_Text : FnOk Tryd.prog 13 Tryd.f13 := ⟨Tryd.func13, by kernel_rfl⟩
theorem fn_Pad : FnOk Tryd.prog 23 Tryd.f23 := ⟨Tryd.func23, by kernel_rfl⟩
theorem fn_Right : FnOk Tryd.prog 18 Tryd.f18 := ⟨Tryd.func18, by kernel_rfl⟩

/-! ## bytes.Equal -/

theorem run_Equal (n m : Nat) (L M : List Int) : (callA cM true 1000 Tryd.f43 [.one (.slr 0 1 0 n), .one (.slr 2 3 0 m)] (memX gdM [.rseq .u8 L 1, .gone, .rseq .u8 M 3, .gone])).view =
    .need (0 + n ≤ L.length) (.need (0 + m ≤ M.length) (.leaf (.p (.c (.b (decide (partQ L 0 n = partQ M 0 m))))) [0] [])) := by kernel_rfl
def q_Equal := (43, fsum [.one (.s .u8), .one (.s .u8)] (fun _ => []) T_Same)
set_option maxRecDepth 100000 in
theorem qs_Equal : FOk cM q_Equal.1 q_Equal.2 :=
  upM (fok_run (C := cM) (shs := [.one (.s .u8), .one (.s .u8)]) (T := T_Same) (cokM mem0 mem0 mem0 mem0) rfl rfl fn_Equal (by kernel_rfl) 1000 fun Ms _ _ => ⟨_, rfl, view_sat (by
    refine Eq.mpr (congrArg (R2.sat _) (run_Equal (Ms 0).length (Ms 1).length (Ms 0) (Ms 1))) ?_
    rw [partQ_all, partQ_all]
    exact ⟨by omega, by omega, met_b rfl rfl⟩)⟩)

/-! ## slices.Clone -/

def cloneR (n : Nat) (L : List Int) : R2 := .br (decide (n = 0)) (.leaf (.p (.c .e)) [0] []) (needR [0 + n ≤ L.length, True, lenP ([] ++ partQ L 0 n)] (leafL ([] ++ partQ L 0 n) 3))
theorem run_Clone (n : Nat) (L : List Int) : (callA cM true 1000 Tryd.f45 [.one (.slr 0 1 0 n)] (memX gdM [.rseq .u8 L 1, .gone])).view =
    .br (decide (n = 0)) (.both (.leaf (.p (.c .e)) [0] []) (cloneR n L)) (cloneR n L) := by kernel_rfl
def sliceT (M : List Int) : RT := .br (decide (M = [])) (.one (.p (.c .e))) (.one (.p (.c (.s 5 .u8 M))))
def T_Clone : List (List Int) → RT := fun l => sliceT (l.getD 0 [])
def bigLen : Nat := 100000000000000
def q_Clone := (45, fsum [.one (.s .u8)] (fun l => [(l.getD 0 []).length ≤ bigLen]) T_Clone)
theorem lenP_of {L : List Int} (h : L.length ≤ 140737488355328) : lenP L := ⟨h, by omega⟩
theorem sliceT_e {M : List Int} (h : M = []) : (R2.leaf (.p (.c .e)) [0] []).sat (RS.met (sliceT M).now) := by
  subst h
  exact ⟨rfl, ⟨trivial, trivial⟩, List.nodup_nil⟩
theorem sliceT_s {M L : List Int} {b : Nat} (h : M ≠ []) (e : L = M) : (leafL L b).sat (RS.met (sliceT M).now) := by
  unfold sliceT
  rw [decide_eq_false h]
  exact leafL_sat e
theorem cloneR_sat {M : List Int} (hM : M.length ≤ bigLen) : (cloneR M.length M).sat (RS.met (sliceT M).now) := by
  unfold bigLen at hM
  refine ⟨fun h => sliceT_e (List.eq_nil_of_length_eq_zero (of_decide_eq_true h)), fun h => ?_⟩
  have h := of_decide_eq_false h
  rw [partQ_all, List.nil_append]
  exact needR_sat ⟨by omega, trivial, lenP_of (by omega), trivial⟩ (sliceT_s (fun e => h (by rw [e]; rfl)) rfl)
set_option maxRecDepth 100000 in
theorem qs_Clone : FOk cM q_Clone.1 q_Clone.2 :=
  upM (fok_run (C := cM) (shs := [.one (.s .u8)]) (T := T_Clone) (conds := fun l => [(l.getD 0 []).length ≤ bigLen]) (cokM mem0 mem0 mem0 mem0) rfl rfl fn_Clone (by kernel_rfl) 1000 fun Ms _ hc => ⟨_, rfl, view_sat (by
    have hc : (Ms 0).length ≤ bigLen := hc.1
    refine Eq.mpr (congrArg (R2.sat _) (run_Clone (Ms 0).length (Ms 0))) ?_
    show R2.sat (RS.met (sliceT (Ms 0)).now) _
    exact ⟨fun h => ⟨sliceT_e (List.eq_nil_of_length_eq_zero (of_decide_eq_true h)), cloneR_sat hc⟩, fun _ => cloneR_sat hc⟩)⟩)

/-! ## code.Text -/

def qLeftV (T : List (List Int) → List Int) := (15, fsum [.one (.w .u64)] (fun _ => []) fun l => .one (.p (.c (.s 5 .u8 (T l)))))
noncomputable def cText (T : List (List Int) → List Int) : Cfg := cfgM [] [] [qLeftV T] [] []
theorem run_Text (T : List (List Int) → List Int) (n : Nat) (L : List Int) : (callA (cText T) true 1000 Tryd.f13 [.one (.slr 0 1 0 n)] (memX gdM [.rseq .u8 L 1, .gone])).view =
    needR [(T [[binI .mul .u64 8 (IntKind.u64.wrap (n : Int))]]).length = (T [[binI .mul .u64 8 (IntKind.u64.wrap (n : Int))]]).length, 0 + n ≤ L.length, True, lenP (T [[binI .mul .u64 8 (IntKind.u64.wrap (n : Int))]] ++ partQ L 0 n)] (leafL (T [[binI .mul .u64 8 (IntKind.u64.wrap (n : Int))]] ++ partQ L 0 n) 4) := by kernel_rfl
/-- A text, encoded. -/
def textN (M : List Int) : List Int := leftN (8 * M.length) ++ M
def T_Text : List (List Int) → List Int := fun l => textN (l.getD 0 [])
def q_Text := (13, fsum [.one (.s .u8)] (fun l => [(l.getD 0 []).length ≤ bigLen]) fun l => .one (.p (.c (.s 5 .u8 (T_Text l)))))
theorem left8 {n : Nat} (h : n ≤ bigLen) : T_Left [[binI .mul .u64 8 (IntKind.u64.wrap (n : Int))]] = leftN (8 * n) := by
  unfold bigLen at h
  have e1 : IntKind.u64.wrap (n : Int) = (n : Int) := wrap_ok (oku (by omega) (by omega))
  have e2 : binI .mul .u64 8 (n : Int) = ((8 * n : Nat) : Int) := by
    show IntKind.u64.wrap _ = _
    rw [wrap_ok (oku (by omega) (by omega))]; omega
  rw [e1, e2]
  rfl
theorem leftN_small {x : Nat} (h : x < 18446744073709551616) : (leftN x).length ≤ 9 := by
  rw [leftN_len]
  have := nbN_bd h
  omega
set_option maxRecDepth 100000 in
theorem qs_Text : FOk cM q_Text.1 q_Text.2 :=
  upM (fok_run (C := cText T_Left) (shs := [.one (.s .u8)]) (T := fun l => .one (.p (.c (.s 5 .u8 (T_Text l))))) (conds := fun l => [(l.getD 0 []).length ≤ bigLen]) (cokM mem0 mem0 (mem1 qs_Left) mem0) rfl rfl fn_Text (by kernel_rfl) 1000 fun Ms _ hc => ⟨_, rfl, view_sat (by
    have hc : (Ms 0).length ≤ bigLen := hc.1
    refine Eq.mpr (congrArg (R2.sat _) (run_Text T_Left (Ms 0).length (Ms 0))) ?_
    show R2.sat (RS.met (.p (.c (.s 5 .u8 (textN (Ms 0)))))) _
    rw [left8 hc, partQ_all]
    have hb : (Ms 0).length ≤ 100000000000000 := hc
    have := leftN_small (x := 8 * (Ms 0).length) (by omega)
    exact needR_sat ⟨rfl, by omega, trivial, lenP_of (by rw [List.length_append]; omega), trivial⟩ (leafL_sat rfl))⟩)

/-! ## Noughts behind, till it is whole -/

structure IPad where
  w : Int
  L0 : List Int
  n : Nat
  L : List Int
def bl_pad (L : List Int) : List AB := [.seq 5 .u8 L 1, .gone]
def St_pad (x : IPad) : LS := ⟨[(5, .one (.sq 0 1 0 x.n)), (0, .one (.si .i64 x.w))], bl_pad x.L⟩
def pi_pad (s : LS) : Option IPad := match s with
  | ⟨[(5, .one (.sq 0 1 0 n)), (0, y)], [.seq t .u8 L 1, .gone]⟩ => match i64? y, Nat.beq t 5 with
    | some w, true => some ⟨w, L, n, L⟩
    | _, _ => none
  | _ => none
theorem pi_pad_fits (s : LS) (x : IPad) (h : pi_pad s = some x) : s.fits (St_pad x) := by
  unfold pi_pad at h
  split at h
  · split at h
    · rename_i w hw ht
      have ht := Nat.eq_of_beq_eq_true ht
      subst ht
      cases h
      exact ⟨⟨rfl, .inl rfl, rfl, i64_fits hw, trivial⟩, rfl⟩
    · cases h
  · cases h
def zerosN (w : Int) (L : List Int) : Nat := ((-(L.length : Int)) % w).toNat
def wholeN (w : Int) (L : List Int) : List Int := L ++ List.replicate (zerosN w L) 0
def fin_pad (x : IPad) : List Int := wholeN x.w x.L0
def ok_pad (x : IPad) : Prop := 1 ≤ x.w ∧ x.w ≤ 1000 ∧ x.n = x.L.length ∧ x.L.length ≤ 110000000000000 ∧ x.L0 = x.L
def Inv_pad (x : IPad) : Prop := 1 ≤ x.w ∧ x.w ≤ 1000 ∧ x.n = x.L.length ∧ x.L0.length ≤ 110000000000000 ∧ ∃ j, x.L = x.L0 ++ List.replicate j 0 ∧ j ≤ zerosN x.w x.L0
def Ex_pad (x : IPad) (e : AE) (s : LS) : Prop := e = .exit 0 ∧ s = ⟨[(5, .one (.sq 0 1 0 (fin_pad x).length))], bl_pad (fin_pad x)⟩
noncomputable def F_pad (ok : IPad → Prop) (fin : IPad → List Int) : TM → Mem → Option ((AE → TM → Mem → Out) → Out) := lqF gdM 26 [] [5, 0] [.of 5] [true, true] pi_pad ok fun x k => k (.exit 0) ⟨[(5, .one (.sq 0 1 0 (fin x).length))], bl_pad (fin x)⟩
noncomputable def bd_pad : Code := loopAt Tryd.f23 0
noncomputable def bd_rpad : Code := loopAt Tryd.f35 0
def padGo (x : IPad) (X : AE → Option LS → Prop) : Out := .need (x.n = x.L.length) (.need True (.need (lenP (x.L ++ [0])) (.need (X .normal (some ⟨[(5, .one (.sq 0 1 0 (x.L ++ [0]).length)), (0, .one (.si .i64 x.w))], bl_pad (x.L ++ [0])⟩)) (.done .any Mem.empty))))
def padStop (x : IPad) (X : AE → Option LS → Prop) : Out := .need (X (.exit 0) (some (St_pad x))) (.done .any Mem.empty)
theorem run_bd_pad (x : IPad) (X : AE → Option LS → Prop) : exec cM 100 (.run bd_pad) (slots 26 (St_pad x).sl) (memX gdM (St_pad x).bl) (endX 0 26 [5, 0] [.of 5] [true, true] X) =
    .need (x.w ≠ 0) (.br (cmpI .eql (binI .rem .i64 (x.n : Int) x.w) 0) (padStop x X) (padGo x X)) := by kernel_rfl
theorem run_bd_rpad (x : IPad) (X : AE → Option LS → Prop) : exec cM 100 (.run bd_rpad) (slots 26 (St_pad x).sl) (memX gdM (St_pad x).bl) (endX 0 26 [5, 0] [.of 5] [true, true] X) =
    .need (x.w ≠ 0) (.br (cmpI .neq (binI .rem .i64 (x.n : Int) x.w) 0) (padGo x X) (padStop x X)) := by kernel_rfl
theorem neg_mod_cases {a w : Int} (hw : 1 ≤ w) : 0 ≤ (-a) % w ∧ (-a) % w < w ∧ (a + (-a) % w) % w = 0 := by
  refine ⟨Int.emod_nonneg _ (by omega), Int.emod_lt_of_pos _ (by omega), ?_⟩
  rw [Int.add_emod, Int.emod_emod_of_dvd _ (Int.dvd_refl w), ← Int.add_emod, Int.add_right_neg, Int.zero_emod]
theorem whole_key {w : Int} {n j : Nat} (h1 : 1 ≤ w) (hj : j ≤ ((-(n : Int)) % w).toNat) : ((n + j : Nat) : Int) % w = 0 ↔ j = ((-(n : Int)) % w).toNat := by
  obtain ⟨a1, a2, a3⟩ := neg_mod_cases (a := (n : Int)) h1
  generalize hz : (-(n : Int)) % w = z at *
  constructor
  · intro h
    have e : ((n : Int) + z - ((n + j : Nat) : Int)) % w = 0 := by rw [Int.sub_emod, a3, h]; simp
    have e2 : (n : Int) + z - ((n + j : Nat) : Int) = z - (j : Int) := by omega
    rw [e2, Int.emod_eq_of_lt (by omega) (by omega)] at e
    omega
  · intro h
    have : ((n + j : Nat) : Int) = (n : Int) + z := by omega
    rw [this]; exact a3
theorem pad_round {x : IPad} (hI : Inv_pad x) : x.w ≠ 0 ∧ binI .rem .i64 (x.n : Int) x.w = (x.n : Int) % x.w ∧
    ((x.n : Int) % x.w = 0 → (padStop x (RoundOk St_pad Inv_pad (fun x => zerosN x.w x.L0 + x.L0.length - x.n) Ex_pad x)).sat fun _ _ => True) ∧
    ((x.n : Int) % x.w ≠ 0 → (padGo x (RoundOk St_pad Inv_pad (fun x => zerosN x.w x.L0 + x.L0.length - x.n) Ex_pad x)).sat fun _ _ => True) := by
  obtain ⟨w, L0, n, L⟩ := x
  obtain ⟨h1, h2, h3, h4, j, h5, h6⟩ := hI
  dsimp only at h1 h2 h3 h4 h5 h6 ⊢
  subst h5
  have hn : n = L0.length + j := by rw [h3]; simp
  subst hn
  have hz : zerosN w L0 < 1000 := by
    have := neg_mod_cases (a := (L0.length : Int)) h1
    unfold zerosN; omega
  have key := whole_key (w := w) (n := L0.length) (j := j) h1 h6
  refine ⟨by omega, Int.tmod_eq_emod_of_nonneg (by omega), fun h => ⟨⟨_, ⟨rfl, rfl⟩, ⟨rfl, .inl ?_, trivial⟩, ?_⟩, trivial⟩, fun h => ⟨h3, trivial, lenP_of ?_, ⟨⟨w, L0, L0.length + (j + 1), L0 ++ List.replicate (j + 1) 0⟩, ⟨h1, h2, by simp, h4, j + 1, rfl, ?_⟩, ?_, fun e s' h => h, ⟨rfl, .inl ?_, rfl, .inl rfl, trivial⟩, ?_⟩, trivial⟩⟩
  · have := key.1 h
    show AV.one (.sq 0 1 0 (L0.length + j)) = AV.one (.sq 0 1 0 (fin_pad ⟨w, L0, L0.length + j, L0 ++ List.replicate j 0⟩).length)
    unfold fin_pad wholeN zerosN
    rw [← this]; simp
  · have := key.1 h
    show bl_pad (L0 ++ List.replicate j 0) = bl_pad (fin_pad ⟨w, L0, L0.length + j, L0 ++ List.replicate j 0⟩)
    unfold fin_pad wholeN zerosN
    rw [← this]
  · simp only [List.length_append, List.length_replicate, List.length_cons, List.length_nil]
    omega
  · have hne : j ≠ ((-(L0.length : Int)) % w).toNat := fun e => h (key.2 e)
    have h6' : j ≤ ((-(L0.length : Int)) % w).toNat := h6
    show j + 1 ≤ ((-(L0.length : Int)) % w).toNat
    omega
  · have hne : j ≠ ((-(L0.length : Int)) % w).toNat := fun e => h (key.2 e)
    have h6' : j ≤ ((-(L0.length : Int)) % w).toNat := h6
    show ((-(L0.length : Int)) % w).toNat + L0.length - (L0.length + (j + 1)) < ((-(L0.length : Int)) % w).toNat + L0.length - (L0.length + j)
    omega
  · simp only [List.length_append, List.length_replicate, List.length_cons, List.length_nil]
    rw [show L0.length + j + (0 + 1) = L0.length + (j + 1) by omega]
  · show bl_pad (L0 ++ List.replicate j 0 ++ [0]) = bl_pad (L0 ++ List.replicate (j + 1) 0)
    rw [List.append_assoc, List.replicate_succ']
theorem lq_pad : LoopQ cM bd_pad (F_pad ok_pad fin_pad) := by
  refine lq_rule (C := cM) (cokM mem0 mem0 mem0 mem0) rfl (n := 100) (ri := [.of 5]) (St := St_pad) (Inv := Inv_pad) (mu := fun x => zerosN x.w x.L0 + x.L0.length - x.n) (Ex := Ex_pad) pi_pad_fits (fun x h => ?_) (fun K k x _ hs e s he => ?_) (fun x hI => ?_)
  · obtain ⟨h1, h2, h3, h4, h5⟩ := h
    exact ⟨h1, h2, h3, by rw [h5]; exact h4, 0, by rw [h5]; simp, Nat.zero_le _⟩
  · obtain ⟨rfl, rfl⟩ := he
    exact hs
  · show Out.sat (fun _ _ => True) (exec cM 100 (.run bd_pad) (slots 26 (St_pad x).sl) (memX gdM (St_pad x).bl) (endX 0 26 [5, 0] [.of 5] [true, true] _))
    rw [run_bd_pad]
    obtain ⟨p1, p2, p3, p4⟩ := pad_round hI
    rw [p2, eql_d]
    exact ⟨p1, fun h => p3 (of_decide_eq_true h), fun h => p4 (of_decide_eq_false h)⟩
theorem neq_d {a b : Int} : cmpI .neq a b = !decide (a = b) := by by_cases h : a = b <;> simp [cmpI, h]
theorem lq_rpad : LoopQ cM bd_rpad (F_pad ok_pad fin_pad) := by
  refine lq_rule (C := cM) (cokM mem0 mem0 mem0 mem0) rfl (n := 100) (ri := [.of 5]) (St := St_pad) (Inv := Inv_pad) (mu := fun x => zerosN x.w x.L0 + x.L0.length - x.n) (Ex := Ex_pad) pi_pad_fits (fun x h => ?_) (fun K k x _ hs e s he => ?_) (fun x hI => ?_)
  · obtain ⟨h1, h2, h3, h4, h5⟩ := h
    exact ⟨h1, h2, h3, by rw [h5]; exact h4, 0, by rw [h5]; simp, Nat.zero_le _⟩
  · obtain ⟨rfl, rfl⟩ := he
    exact hs
  · show Out.sat (fun _ _ => True) (exec cM 100 (.run bd_rpad) (slots 26 (St_pad x).sl) (memX gdM (St_pad x).bl) (endX 0 26 [5, 0] [.of 5] [true, true] _))
    rw [run_bd_rpad]
    obtain ⟨p1, p2, p3, p4⟩ := pad_round hI
    rw [p2, neq_d]
    refine ⟨p1, fun h => p4 (fun e => ?_), fun h => p3 ?_⟩
    · rw [decide_eq_true e] at h; cases h
    · cases hq : decide ((x.n : Int) % x.w = 0) with
      | true => exact of_decide_eq_true hq
      | false => rw [hq] at h; cases h
end Go.Proofs.YtpaphgdbfbkihaaDoor
