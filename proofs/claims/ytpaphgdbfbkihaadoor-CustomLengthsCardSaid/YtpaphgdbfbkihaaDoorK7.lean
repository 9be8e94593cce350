/- Layer 16: the law CodePads. -/
import Derived.Test.YtpaphgdbfbkihaaDoorK6
namespace Go.Proofs.YtpaphgdbfbkihaaDoor
open Go Go.Ax

/-- A summary asked less, and told otherwise. -/
theorem FOk.weaken {C : Cfg} {g : Nat} {shs : List SH} {conds conds' : List (List Int) → List Prop} {T T' : List (List Int) → RT} (h : FOk C g (fsum shs conds T)) (hw : ∀ l, allP (conds' l) → allP (conds l) ∧ (T l).now = (T' l).now) : FOk C g (fsum shs conds' T') := by
  obtain ⟨h1, h2⟩ := h
  refine ⟨h1, fun args mem r cs hF hp B w0 w env vals hm ha => ?_⟩
  unfold fsum at hF
  split at hF
  · rename_i fl hop
    split at hF
    · rename_i ps ess hpa
      cases hF
      rw [allP_iff] at hp
      obtain ⟨q1, q2⟩ := hw ess hp.2
      have := h2 args mem (T ess) (ps ++ conds ess) (by unfold fsum; rw [hop]; simp only [hpa]) ((allP_iff).2 ⟨hp.1, q1⟩) B w0 w env vals hm ha
      rw [q2] at this
      exact this
    · cases hF
  · cases hF

/-! ## Noughts alone? -/

noncomputable def bd_pads : Code := loopAt Tryd.f6 0
structure IZer where
  P : List Int
  n : Nat
  size : Int
  L : List Int
  m : Nat
  o : Nat
  k : Nat
  len : Int
  i : Int
def bl_zer (x : IZer) : List AB := [.seq 5 .u8 x.P 1, .gone, .rseq .u8 x.L 3, .gone]
def st3 (x : IZer) : List (Nat × AV) := [(6, .one (.sq 0 1 0 x.n)), (8, .one (.si .i64 x.size)), (1, .one (.slr 2 3 0 x.m))]
def St_zer (x : IZer) : LS := ⟨st3 x ++ [(4, .any), (70, .one (.sq 0 1 x.o x.k)), (71, .one (.si .i64 x.len)), (72, .one (.si .i64 x.i))], bl_zer x⟩
def pi_zer (s : LS) : Option IZer := match s with
  | ⟨[(6, .one (.sq 0 1 0 n)), (8, a), (1, .one (.slr 2 3 0 m)), (4, _), (70, .one (.sq 0 1 o k)), (71, c), (72, d)], [.seq t .u8 P 1, .gone, .rseq .u8 L 3, .gone]⟩ => match i64? a, i64? c, i64? d, Nat.beq t 5 with
    | some size, some len, some i, true => some ⟨P, n, size, L, m, o, k, len, i⟩
    | _, _, _, _ => none
  | _ => none
theorem pi_zer_fits (s : LS) (x : IZer) (h : pi_zer s = some x) : s.fits (St_zer x) := by
  unfold pi_zer at h
  split at h
  · split at h
    · rename_i size len i h1 h2 h3 ht
      have ht := Nat.eq_of_beq_eq_true ht
      subst ht
      cases h
      exact ⟨⟨rfl, .inl rfl, rfl, i64_fits h1, rfl, .inl rfl, rfl, .inr (.inr rfl), rfl, .inl rfl, rfl, i64_fits h2, rfl, i64_fits h3, trivial⟩, rfl⟩
    · cases h
  · cases h
theorem run_bd_pads (x : IZer) (X : AE → Option LS → Prop) : exec cM 100 (.run bd_pads) (slots 88 (St_zer x).sl) (memX gdM (St_zer x).bl) (endX 0 88 [6, 8, 1, 4, 70, 71, 72] [.fix 0, .fix 1, .fix 2, .fix 3] [false, false, false, false] X) =
    .br (cmpI .lss x.i x.len) (.need (0 ≤ x.i) (.need (x.i < (x.k : Int)) (.need (0 ≤ (x.o : Int) + x.i) (.need ((x.o : Int) + x.i < (x.P.length : Int)) (.br (cmpI .neq (sel x.P ((x.o : Int) + x.i)) 0)
      (.need (X .ret (some ⟨st3 x ++ [(4, .one (.lb false)), (70, .one (.sq 0 1 x.o x.k)), (71, .one (.si .i64 x.len)), (72, .one (.si .i64 x.i))], bl_zer x⟩)) (.done .any Mem.empty))
      (.need (X .normal (some ⟨st3 x ++ [(4, .any), (70, .one (.sq 0 1 x.o x.k)), (71, .one (.si .i64 x.len)), (72, .one (.si .i64 (binI .add .i64 x.i 1)))], bl_zer x⟩)) (.done .any Mem.empty)))))))
      (.need (X (.exit 0) (some (St_zer x))) (.done .any Mem.empty)) := by kernel_rfl
def allZ (L : List Int) : Bool := L.all fun y => decide (y = 0)
def z_zer (x : IZer) : Bool := allZ ((x.P.drop x.o).take x.k)
def ok_zer (x : IZer) : Prop := x.o + x.k ≤ x.P.length ∧ x.len = x.k ∧ x.i = 0 ∧ x.k ≤ 9223372036854775807
def Inv_zer (x : IZer) : Prop := x.o + x.k ≤ x.P.length ∧ x.len = x.k ∧ x.k ≤ 9223372036854775807 ∧ ∃ j : Nat, x.i = j ∧ j ≤ x.k ∧ z_zer x = allZ (((x.P.drop x.o).take x.k).drop j)
def Ex_zer (x : IZer) (e : AE) (s : LS) : Prop := (e = .exit 0 ∧ z_zer x = true ∧ s = ⟨st3 x, bl_zer x⟩) ∨ (e = .ret ∧ z_zer x = false ∧ s = ⟨st3 x ++ [(4, .one (.lb false))], bl_zer x⟩)
noncomputable def F_zer (z : IZer → Bool) (ok : IZer → Prop) : TM → Mem → Option ((AE → TM → Mem → Out) → Out) := lqF gdM 88 [] [6, 8, 1, 4, 70, 71, 72] [.of 6, .of 1] [false, false, false, false] pi_zer ok fun x k => .br (z x) (k (.exit 0) ⟨st3 x, bl_zer x⟩) (k .ret ⟨st3 x ++ [(4, .one (.lb false))], bl_zer x⟩)
theorem lq_zer : LoopQ cM bd_pads (F_zer z_zer ok_zer) := by
  refine lq_rule (C := cM) (cokM mem0 mem0 mem0 mem0) rfl (n := 100) (ri := [.fix 0, .fix 1, .fix 2, .fix 3]) (St := St_zer) (Inv := Inv_zer) (mu := fun x => (x.len - x.i).toNat) (Ex := Ex_zer) pi_zer_fits (fun x h => ?_) (fun K k x _ hs e s he => ?_) (fun x hI => ?_)
  · obtain ⟨h1, h2, h3, h4⟩ := h
    exact ⟨h1, h2, h4, 0, h3, Nat.zero_le _, rfl⟩
  · rcases he with ⟨rfl, hz, rfl⟩ | ⟨rfl, hz, rfl⟩
    · exact hs.1 hz
    · exact hs.2 hz
  · show Out.sat (fun _ _ => True) (exec cM 100 (.run bd_pads) (slots 88 (St_zer x).sl) (memX gdM (St_zer x).bl) (endX 0 88 [6, 8, 1, 4, 70, 71, 72] [.fix 0, .fix 1, .fix 2, .fix 3] [false, false, false, false] _))
    rw [run_bd_pads]
    obtain ⟨P, n, size, L, m, o, k, len, i⟩ := x
    obtain ⟨h1, h2, h4, j, h3, h5, h6⟩ := hI
    dsimp only at h1 h2 h3 h4 h5 h6 ⊢
    subst h2 h3
    refine ⟨fun hc => ?_, fun hc => ?_⟩
    · have hc : (j : Int) < (k : Int) := of_decide_eq_true hc
      have hlt : o + j < P.length := by omega
      have hsel : sel P ((o : Int) + (j : Int)) = P[o + j] := by
        unfold sel
        rw [show ((o : Int) + (j : Int)).toNat = o + j by omega]
        simp [hlt]
      have hl : j < ((P.drop o).take k).length := by simp; omega
      have hg : ((P.drop o).take k)[j] = P[o + j] := by simp
      rw [List.drop_eq_getElem_cons hl, hg] at h6
      have h6 : z_zer ⟨P, n, size, L, m, o, k, (k : Int), (j : Int)⟩ = (decide (P[o + j] = 0) && allZ (((P.drop o).take k).drop (j + 1))) := h6
      have e2 : binI .add .i64 (j : Int) 1 = ((j + 1 : Nat) : Int) := by
        show IntKind.i64.wrap _ = _
        rw [wrap_ok (ok64 (by omega) (by omega))]; omega
      rw [hsel, neq_d, e2]
      refine ⟨by omega, by omega, by omega, by omega, fun hd => ⟨⟨_, .inr ⟨rfl, ?_, rfl⟩, ⟨rfl, .inl rfl, rfl, .inl rfl, rfl, .inl rfl, rfl, .inl rfl, trivial⟩, rfl⟩, trivial⟩, fun hd => ?_⟩
      · rw [h6]
        cases hq : decide (P[o + j] = 0) with
        | true => rw [hq] at hd; cases hd
        | false => rfl
      · have hq : decide (P[o + j] = 0) = true := by
          cases hq : decide (P[o + j] = 0) with
          | true => rfl
          | false => rw [hq] at hd; cases hd
        rw [hq, Bool.true_and] at h6
        exact ⟨⟨⟨P, n, size, L, m, o, k, (k : Int), ((j + 1 : Nat) : Int)⟩, ⟨h1, rfl, h4, j + 1, rfl, by show j + 1 ≤ k; omega, h6⟩, by show ((k : Int) - ((j + 1 : Nat) : Int)).toNat < ((k : Int) - (j : Int)).toNat; omega, fun e s' h => h, ⟨rfl, .inl rfl, rfl, .inl rfl, rfl, .inl rfl, rfl, .inr (.inr rfl), rfl, .inl rfl, rfl, .inl rfl, rfl, .inl rfl, trivial⟩, rfl⟩, trivial⟩
    · have hc : ¬ (j : Int) < (k : Int) := of_decide_eq_false hc
      rw [List.drop_of_length_le (by simp; omega)] at h6
      exact ⟨⟨_, .inl ⟨rfl, h6, rfl⟩, ⟨rfl, .inl rfl, rfl, .inl rfl, rfl, .inl rfl, trivial⟩, rfl⟩, trivial⟩

/-! ## The law -/

theorem fn_CodePads : FnOk Tryd.prog 6 Tryd.f6 := ⟨Tryd.func6, by kernel_rfl⟩
def qPadV (T : List (List Int) → List Int) := (23, fsum [.one (.w .i64), .one (.s .u8)] (fun l => [(l.getD 1 []).length ≤ bigLen, 1 ≤ one l 0 ∧ one l 0 ≤ 1000]) fun l => .one (.p (.c (.s 5 .u8 (T l)))))
def padT (l : List (List Int)) : List Int := padW (one l 0) (l.getD 1 [])
theorem qs_PadT : FOk cM (qPadV padT).1 (qPadV padT).2 := FOk.weaken qs_Pad fun l h => ⟨⟨h.1, trivial⟩, by
  obtain ⟨_, ⟨h1, h2⟩, _⟩ := h
  unfold T_Pad
  rw [decide_eq_true h1, decide_eq_true h2]; rfl⟩
noncomputable def cPads (z : IZer → Bool) (ok : IZer → Prop) (T : List (List Int) → List Int) (E : List (List Int) → Bool) (N S : List (List Int) → Int) (K : List (List Int) → Bool) : Cfg := cfgM [] [p_wakes16] [qPadV T, qSameV E, qGetV N S K] [(11, bd_pads, F_zer z ok)] []
def kI (w : Int) : Int := binI .add .i64 1 (binI .rem .i64 (IntKind.i64.wrap w) 1000)
def eI (S : Int) (m : Nat) : Int := binI .add .i64 S (m : Int)
def I_zer (P : List Int) (S : Int) (L : List Int) (m : Nat) : IZer := ⟨P, P.length, S, L, m, 0 + (eI S m).toNat, (P.length : Int).toNat - (eI S m).toNat, (((P.length : Int).toNat - (eI S m).toNat : Nat) : Int), 0⟩
noncomputable def padsEnd (z : IZer → Bool) (ok : IZer → Prop) (E : List (List Int) → Bool) (P : List Int) (S : Int) (L : List Int) (m : Nat) : Out :=
  needs [0 ≤ eI S m, eI S m ≤ (P.length : Int), (P.length : Int) ≤ (P.length : Int), bd_pads = bd_pads, ok (I_zer P S L m)] (.br (z (I_zer P S L m))
    (needs [0 ≤ S, S ≤ eI S m, eI S m ≤ (P.length : Int), 0 + S.toNat + ((eI S m).toNat - S.toNat) ≤ P.length, 0 + m ≤ L.length] (sbO (E [partQ P (0 + S.toNat) ((eI S m).toNat - S.toNat), partQ L 0 m]))) noO)
noncomputable def padsR (z : IZer → Bool) (ok : IZer → Prop) (E : List (List Int) → Bool) (P : List Int) (N S : Int) (K : Bool) (k : Int) (L : List Int) (m : Nat) : Out :=
  needs [0 + P.length ≤ P.length] (.br (!K) noO (.br (cmpI .neq N (IntKind.u64.wrap k)) noO (.br (cmpI .lss (P.length : Int) (eI S m)) noO (.br (cmpI .geq (binI .sub .i64 (binI .sub .i64 (P.length : Int) S) (m : Int)) k) noO
    (needs [k ≠ 0] (.br (cmpI .neq (binI .rem .i64 (P.length : Int) k) 0) noO (padsEnd z ok E P S L m)))))))
theorem run_CodePads (z : IZer → Bool) (ok : IZer → Prop) (T : List (List Int) → List Int) (E : List (List Int) → Bool) (N S : List (List Int) → Int) (K : List (List Int) → Bool) (w : Int) (m : Nat) (L : List Int) :
    callA (cPads z ok T E N S K) false 1000 Tryd.f6 [.one (.si .u16 w), .one (.slr 2 3 0 m)] (memX gdM [.gone, .gone, .rseq .u8 L 3, .gone]) =
    .br (cmpI .gtr (m : Int) 300) yesO (needs [0 + m ≤ L.length, (partQ L 0 m).length ≤ bigLen, 1 ≤ kI w ∧ kI w ≤ 1000]
      (padsR z ok E (T [[kI w], partQ L 0 m]) (N [partQ (T [[kI w], partQ L 0 m]) 0 (T [[kI w], partQ L 0 m]).length]) (S [partQ (T [[kI w], partQ L 0 m]) 0 (T [[kI w], partQ L 0 m]).length]) (K [partQ (T [[kI w], partQ L 0 m]) 0 (T [[kI w], partQ L 0 m]).length]) (kI w) L m)) := by kernel_rfl
theorem cokPads : COk (cPads z_zer ok_zer padT E_same gN gS gB) := cokM mem0 (mem1 ps_wakes16) (memc qs_PadT (memc qs_Same (mem1 qs_GetLeft))) (mem1 lq_zer)
theorem allZ_rep (n : Nat) : allZ (List.replicate n 0) = true := by
  unfold allZ
  simp
theorem kI_bd {w : Int} (h : okI .u16 w) : 1 ≤ kI w ∧ kI w ≤ 1000 := by
  unfold okI at h
  simp [IntKind.min, IntKind.max, IntKind.bits, IntKind.signed] at h
  have e1 : IntKind.i64.wrap w = w := wrap_ok (ok64 (by omega) (by omega))
  have e2 : binI .rem .i64 w 1000 = w % 1000 := by
    show w.tmod 1000 = _
    exact Int.tmod_eq_emod_of_nonneg (by omega)
  unfold kI
  rw [e1, e2]
  have e3 : binI .add .i64 1 (w % 1000) = 1 + w % 1000 := wrap_ok (ok64 (by omega) (by omega))
  rw [e3]
  omega
set_option maxRecDepth 100000 in
theorem law_CodePads {H : Type} {enc : TypeId × Value → H} {W : World} {base : Nat} {args : Array Value} {ds : List (DataW H)} {ps : List MemPlace} (hT : DataW.TrodAll enc Tryd.prog W 0 (fun _ => true) true Tryd.f6.params.toList args.toList ds ps)
    (hval : ∀ (j : Nat) t v, Tryd.f6.params[j]? = some t → args[j]? = some v → Value.okWide Tryd.prog W .any base t v) :
    Calls Tryd.prog 6 args W fun e w' => e = .returned (.bool true) ∧ RowKit.Below W.heap.size W w' :=
  law_s (C := cPads z_zer ok_zer padT E_same gN gS gB) cokPads rfl rfl fn_CodePads (shs := [.one (.w .u16), .one (.s .u8)]) (by kernel_rfl) 1000
    (fun Ms hok => ⟨_, run_CodePads z_zer ok_zer padT E_same gN gS gB ((Ms 0).getD 0 0) (Ms 1).length (Ms 1), by
      obtain ⟨⟨hl, hk⟩, _, _⟩ := hok
      have hk : okI .u16 ((Ms 0).getD 0 0) := by
        match hq : Ms 0, hl with
        | [y], _ => exact hk y (by rw [hq]; simp)
      obtain ⟨k1, k2⟩ := kI_bd hk
      generalize kI ((Ms 0).getD 0 0) = k at *
      generalize Ms 1 = M
      refine ⟨fun _ => .inr rfl, fun hm => ?_⟩
      have hm : ¬ (300 < (M.length : Int)) := of_decide_eq_false hm
      rw [partQ_all, partQ_all]
      obtain ⟨x, rfl⟩ := Int.eq_ofNat_of_zero_le (show 0 ≤ k by omega)
      have hx : x < 18446744073709551616 := by omega
      have hT1 : padT [[(x : Int)], M] = leftN x ++ (M ++ List.replicate (zerosN (x : Int) (leftN x ++ M)) 0) := by
        show padW (x : Int) M = _
        unfold padW wholeN
        rw [Int.toNat_natCast, List.append_assoc]
      have hll := leftN_len (x := x)
      have hnb := nbN_bd hx
      obtain ⟨a1, a2, a3⟩ := neg_mod_cases (a := ((leftN x ++ M).length : Int)) (w := (x : Int)) (by omega)
      have hz : (zerosN (x : Int) (leftN x ++ M) : Int) = (-((leftN x ++ M).length : Int)) % (x : Int) := by unfold zerosN; omega
      have hlx : (leftN x ++ M).length = nbN x + 1 + M.length := by rw [List.length_append, hll]
      obtain ⟨g1, g2, g3⟩ := get_left hx (M ++ List.replicate (zerosN (x : Int) (leftN x ++ M)) 0)
      rw [hT1]
      generalize hzz : zerosN (x : Int) (leftN x ++ M) = zn at *
      rw [← hz] at a1 a2 a3
      have e1 : gB [leftN x ++ (M ++ List.replicate zn 0)] = true := g1
      have e2 : gN [leftN x ++ (M ++ List.replicate zn 0)] = (x : Int) := g2
      have e3 : gS [leftN x ++ (M ++ List.replicate zn 0)] = ((nbN x + 1 : Nat) : Int) := by rw [← hll]; exact g3
      rw [e1, e2, e3]
      have hlen : (leftN x ++ (M ++ List.replicate zn 0)).length = nbN x + 1 + (M.length + zn) := by simp [hll]
      have ew : IntKind.u64.wrap (x : Int) = (x : Int) := wrap_ok (oku (by omega) (by omega))
      have ee : eI ((nbN x + 1 : Nat) : Int) M.length = ((nbN x + 1 + M.length : Nat) : Int) := by
        show IntKind.i64.wrap _ = _
        rw [wrap_ok (ok64 (by omega) (by omega))]; omega
      refine needs_i ⟨by omega, by unfold bigLen; omega, ⟨k1, k2⟩, trivial⟩ (needs_i ⟨by omega, trivial⟩ ⟨fun h => (by cases h), fun _ => ⟨fun h => ?_, fun _ => ⟨fun h => ?_, fun _ => ⟨fun h => ?_, fun _ => needs_i ⟨by omega, trivial⟩ ⟨fun h => ?_, fun _ => ?_⟩⟩⟩⟩⟩)
      · rw [ew, neq_d, decide_eq_true rfl] at h; cases h
      · rw [ee, hlen] at h
        have h : ((nbN x + 1 + (M.length + zn) : Nat) : Int) < ((nbN x + 1 + M.length : Nat) : Int) := of_decide_eq_true h
        omega
      · rw [hlen] at h
        have e4 : binI .sub .i64 ((nbN x + 1 + (M.length + zn) : Nat) : Int) ((nbN x + 1 : Nat) : Int) = ((M.length + zn : Nat) : Int) := by
          show IntKind.i64.wrap _ = _
          rw [wrap_ok (ok64 (by omega) (by omega))]; omega
        have e5 : binI .sub .i64 ((M.length + zn : Nat) : Int) (M.length : Int) = (zn : Int) := by
          show IntKind.i64.wrap _ = _
          rw [wrap_ok (ok64 (by omega) (by omega))]; omega
        rw [e4, e5] at h
        have h : (x : Int) ≤ (zn : Int) := of_decide_eq_true h
        omega
      · rw [hlen] at h
        have e6 : binI .rem .i64 ((nbN x + 1 + (M.length + zn) : Nat) : Int) (x : Int) = ((nbN x + 1 + (M.length + zn) : Nat) : Int) % (x : Int) := by
          show (((nbN x + 1 + (M.length + zn) : Nat) : Int)).tmod (x : Int) = _
          exact Int.tmod_eq_emod_of_nonneg (by omega)
        have e7 : ((nbN x + 1 + (M.length + zn) : Nat) : Int) = ((leftN x ++ M).length : Int) + (zn : Int) := by rw [hlx]; omega
        rw [e6, e7, a3] at h
        cases h
      · have hI : I_zer (leftN x ++ (M ++ List.replicate zn 0)) ((nbN x + 1 : Nat) : Int) M M.length = ⟨leftN x ++ (M ++ List.replicate zn 0), nbN x + 1 + (M.length + zn), ((nbN x + 1 : Nat) : Int), M, M.length, nbN x + 1 + M.length, zn, (zn : Int), 0⟩ := by
          unfold I_zer
          rw [ee, hlen]
          have q1 : 0 + ((nbN x + 1 + M.length : Nat) : Int).toNat = nbN x + 1 + M.length := by omega
          have q2 : ((nbN x + 1 + (M.length + zn) : Nat) : Int).toNat - ((nbN x + 1 + M.length : Nat) : Int).toNat = zn := by omega
          rw [q1, q2]
        have hzer : z_zer (I_zer (leftN x ++ (M ++ List.replicate zn 0)) ((nbN x + 1 : Nat) : Int) M M.length) = true := by
          rw [hI]
          show allZ (((leftN x ++ (M ++ List.replicate zn 0)).drop (nbN x + 1 + M.length)).take zn) = true
          rw [← List.append_assoc, List.drop_append_of_le_length (by omega), List.drop_of_length_le (by omega), List.nil_append, List.take_of_length_le (by simp)]
          exact allZ_rep zn
        have hokz : ok_zer (I_zer (leftN x ++ (M ++ List.replicate zn 0)) ((nbN x + 1 : Nat) : Int) M M.length) := by
          rw [hI]
          exact ⟨by show nbN x + 1 + M.length + zn ≤ (leftN x ++ (M ++ List.replicate zn 0)).length; omega, rfl, rfl, by show zn ≤ _; omega⟩
        refine needs_i ⟨by rw [ee]; omega, by rw [ee, hlen]; omega, by omega, rfl, hokz, trivial⟩ ⟨fun _ => ?_, fun h => ?_⟩
        · rw [ee]
          have q1 : 0 + (((nbN x + 1 : Nat) : Int)).toNat = nbN x + 1 := by omega
          have q2 : (((nbN x + 1 + M.length : Nat) : Int)).toNat - (((nbN x + 1 : Nat) : Int)).toNat = M.length := by omega
          rw [q1, q2]
          refine needs_i ⟨by omega, by omega, by rw [hlen]; omega, by rw [hlen]; omega, by omega, trivial⟩ (.inl ?_)
          rw [partQ_eq, List.drop_append_of_le_length (by omega), List.drop_of_length_le (by omega), List.nil_append, List.take_append_of_le_length (by omega), List.take_of_length_le (by omega)]
          have : E_same [M, M] = decide (M = M) := rfl
          rw [partQ_all, this, decide_eq_true rfl]
        · rw [hzer] at h; cases h⟩) hT hval (fun p hp => by cases hp)
end Go.Proofs.YtpaphgdbfbkihaaDoor
