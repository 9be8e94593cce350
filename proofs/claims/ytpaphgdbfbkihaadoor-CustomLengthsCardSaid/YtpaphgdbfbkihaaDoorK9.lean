/- Layer 16: the law CodeTexts. -/
import Derived.Test.YtpaphgdbfbkihaaDoorK8
namespace Go.Proofs.YtpaphgdbfbkihaaDoor
open Go Go.Ax

theorem fn_CodeTexts : FnOk Tryd.prog 10 Tryd.f10 := ⟨Tryd.func10, by kernel_rfl⟩
def qRTextV (T : List (List Int) → List Int) := (34, fsum [.one (.s .u8)] (fun l => [(l.getD 0 []).length ≤ bigLen]) fun l => .one (.p (.c (.s 5 .u8 (T l)))))
def qGetTV (B : List (List Int) → Bool) (Ei : List (List Int) → Int) (Mx : List (List Int) → List Int) := (24, fsum [.one (.s .u8)] (fun l => [(l.getD 0 []).length ≤ bigLen]) fun l => textT (B l) (Ei l) (Mx l))
def qPadG (g : Nat) (G : List (List Int) → Bool) (T : List (List Int) → List Int) := (g, fsum [.one (.w .i64), .one (.s .u8)] (fun l => [(l.getD 1 []).length ≤ bigLen]) fun l => .br (G l) (.one (.p (.c (.s 5 .u8 (T l))))) (.one (.p (.c .e))))
noncomputable def cTexts (T U PT : List (List Int) → List Int) (E B G : List (List Int) → Bool) (Ei : List (List Int) → Int) (Mx : List (List Int) → List Int) : Cfg :=
  cfgM [] [p_wakes16] [qTextV T, qRTextV U, qGetTV B Ei Mx, qPadG 23 G PT, qPadG 35 G PT, qSameV E] [] []
/-- A slice's bytes, and what has to hold to read them: of one of its own, or of none. -/
def srcO (own : Bool) (M : List Int) : List Prop := match own with | true => [0 + M.length ≤ M.length] | false => []
def srcL (own : Bool) (M : List Int) : List Int := match own with | true => partQ M 0 M.length | false => []
def lastT (own : Bool) (p : List Int) (w : Int) : Out := match own with
  | true => .br (cmpI .eql (p.length : Int) 0) yesO (.need (w ≠ 0) (sbO (cmpI .eql (binI .rem .i64 (p.length : Int) w) 0)))
  | false => yesO
def finT (T U PT : List Int) (E : List (List Int) → Bool) (G : Bool) (ok : Bool) (ei : Int) (yo : Bool) (y : List Int) (po : Bool) (n : Nat) (L : List Int) (w : Int) : Out :=
  needs ([0 + n ≤ L.length, (partQ L 0 n).length ≤ bigLen] ++ [0 + T.length ≤ T.length, 0 + U.length ≤ U.length]) (.br (E [partQ T 0 T.length, partQ U 0 U.length]) (.br ok (.br (cmpI .eql ei (T.length : Int))
    (needs (srcO yo y ++ [0 + n ≤ L.length]) (.br (E [srcL yo y, partQ L 0 n]) (needs [0 + n ≤ L.length, (partQ L 0 n).length ≤ bigLen]
      (.br G (needs (srcO po PT ++ srcO true PT) (.br (E [srcL po PT, srcL true PT]) (lastT po PT w) noO)) (needs (srcO po PT ++ srcO false PT) (.br (E [srcL po PT, srcL false PT]) (lastT po PT w) noO)))) noO)) noO) noO) noO)
def padT2 (T U PT : List Int) (E : List (List Int) → Bool) (G : Bool) (ok : Bool) (ei : Int) (yo : Bool) (y : List Int) (n : Nat) (L : List Int) (w : Int) : Out :=
  needs [0 + n ≤ L.length, (partQ L 0 n).length ≤ bigLen] (.br G (finT T U PT E G ok ei yo y true n L w) (finT T U PT E G ok ei yo y false n L w))
def restT (T U PT : List Int) (E : List (List Int) → Bool) (G B : Bool) (Ei : Int) (Mx : List Int) (xs : List Int) (n : Nat) (L : List Int) (w : Int) : Out :=
  needs [xs.length ≤ bigLen] (.br B (.br (decide (Mx = [])) (padT2 T U PT E G true Ei false Mx n L w) (padT2 T U PT E G true Ei true Mx n L w)) (padT2 T U PT E G false 0 false Mx n L w))
theorem run_CodeTexts (T U PT : List (List Int) → List Int) (E B G : List (List Int) → Bool) (Ei : List (List Int) → Int) (Mx : List (List Int) → List Int) (w : Int) (n m : Nat) (L M : List Int) :
    callA (cTexts T U PT E B G Ei Mx) false 1000 Tryd.f10 [.one (.slr 0 1 0 n), .one (.si .i64 w), .one (.slr 4 5 0 m)] (memX gdM [.rseq .u8 L 1, .gone, .gone, .gone, .rseq .u8 M 5, .gone]) =
    .br (cmpI .gtr (n : Int) 400) yesO (.br (cmpI .gtr (m : Int) 100) yesO (needs [0 + n ≤ L.length, (partQ L 0 n).length ≤ bigLen] (.br (decide ((T [partQ L 0 n]).length = 0))
      (.br (decide (m = 0)) (restT (T [partQ L 0 n]) (U [partQ L 0 n]) (PT [[w], partQ L 0 n]) E (G [[w], partQ L 0 n]) (B [[]]) (Ei [[]]) (Mx [[]]) [] n L w)
        (needs [0 + m ≤ M.length, True, lenP ([] ++ partQ M 0 m), 0 + ([] ++ partQ M 0 m).length ≤ ([] ++ partQ M 0 m).length] (restT (T [partQ L 0 n]) (U [partQ L 0 n]) (PT [[w], partQ L 0 n]) E (G [[w], partQ L 0 n]) (B [partQ ([] ++ partQ M 0 m) 0 ([] ++ partQ M 0 m).length]) (Ei [partQ ([] ++ partQ M 0 m) 0 ([] ++ partQ M 0 m).length]) (Mx [partQ ([] ++ partQ M 0 m) 0 ([] ++ partQ M 0 m).length]) (partQ ([] ++ partQ M 0 m) 0 ([] ++ partQ M 0 m).length) n L w)))
      (needs [0 + (T [partQ L 0 n]).length ≤ (T [partQ L 0 n]).length, True, lenP ([] ++ partQ (T [partQ L 0 n]) 0 (T [partQ L 0 n]).length), ([] ++ partQ (T [partQ L 0 n]) 0 (T [partQ L 0 n]).length).length = ([] ++ partQ (T [partQ L 0 n]) 0 (T [partQ L 0 n]).length).length, 0 + m ≤ M.length, True, lenP ([] ++ partQ (T [partQ L 0 n]) 0 (T [partQ L 0 n]).length ++ partQ M 0 m), 0 + ([] ++ partQ (T [partQ L 0 n]) 0 (T [partQ L 0 n]).length ++ partQ M 0 m).length ≤ ([] ++ partQ (T [partQ L 0 n]) 0 (T [partQ L 0 n]).length ++ partQ M 0 m).length]
        (restT (T [partQ L 0 n]) (U [partQ L 0 n]) (PT [[w], partQ L 0 n]) E (G [[w], partQ L 0 n]) (B [partQ ([] ++ partQ (T [partQ L 0 n]) 0 (T [partQ L 0 n]).length ++ partQ M 0 m) 0 ([] ++ partQ (T [partQ L 0 n]) 0 (T [partQ L 0 n]).length ++ partQ M 0 m).length]) (Ei [partQ ([] ++ partQ (T [partQ L 0 n]) 0 (T [partQ L 0 n]).length ++ partQ M 0 m) 0 ([] ++ partQ (T [partQ L 0 n]) 0 (T [partQ L 0 n]).length ++ partQ M 0 m).length]) (Mx [partQ ([] ++ partQ (T [partQ L 0 n]) 0 (T [partQ L 0 n]).length ++ partQ M 0 m) 0 ([] ++ partQ (T [partQ L 0 n]) 0 (T [partQ L 0 n]).length ++ partQ M 0 m).length]) (partQ ([] ++ partQ (T [partQ L 0 n]) 0 (T [partQ L 0 n]).length ++ partQ M 0 m) 0 ([] ++ partQ (T [partQ L 0 n]) 0 (T [partQ L 0 n]).length ++ partQ M 0 m).length) n L w)))))
     := by kernel_rfl

def gP (l : List (List Int)) : Bool := decide (1 ≤ one l 0) && decide (one l 0 ≤ 1000)
def tB (l : List (List Int)) : Bool := tgB (l.getD 0 [])
def tE (l : List (List Int)) : Int := tgE (l.getD 0 [])
def tM (l : List (List Int)) : List Int := tgM (l.getD 0 [])
theorem cokTexts : COk (cTexts T_Text T_Text padT E_same tB gP tE tM) := cokM mem0 (mem1 ps_wakes16) (memc qs_Text (memc qs_RText (memc qs_GetText (memc qs_Pad (memc qs_RPad (mem1 qs_Same)))))) mem0
theorem E_self (A : List Int) : E_same [A, A] = true := decide_eq_true rfl
def isY (v : AV) (_ : Mem) : Prop := v = .one (.sb true) ∨ v = .one (.lb true)
theorem srcO_ok {own : Bool} {M : List Int} : allP (srcO own M) := by
  cases own
  · trivial
  · exact ⟨by omega, trivial⟩
theorem lastT_sat {own : Bool} {M : List Int} {w : Int} (h : own = true → 1 ≤ w ∧ w ≤ 1000) {X : List Int} (hM : M = wholeN w X) : (lastT own M w).sat isY := by
  cases own with
  | false => exact .inr rfl
  | true =>
    obtain ⟨h1, h2⟩ := h rfl
    refine ⟨fun _ => .inr rfl, fun _ => ⟨by omega, .inl ?_⟩⟩
    have hl : (M.length : Int) % w = 0 := by
      rw [hM]
      unfold wholeN zerosN
      obtain ⟨a1, a2, a3⟩ := neg_mod_cases (a := (X.length : Int)) h1
      rw [List.length_append, List.length_replicate]
      have : ((X.length + ((-(X.length : Int)) % w).toNat : Nat) : Int) = (X.length : Int) + (-(X.length : Int)) % w := by omega
      rw [this]; exact a3
    have e : binI .rem .i64 (M.length : Int) w = (M.length : Int) % w := by
      show ((M.length : Int)).tmod w = _
      exact Int.tmod_eq_emod_of_nonneg (by omega)
    rw [e, hl]; rfl
theorem finT_sat {T PT L y : List Int} {G yo : Bool} {w : Int} {X : List Int} (hL : L.length ≤ 400) (hy : srcL yo y = L) (hG : G = true → 1 ≤ w ∧ w ≤ 1000) (hP : PT = wholeN w X) : (finT T T PT E_same G true (T.length : Int) yo y G L.length L w).sat isY := by
  have hb : (partQ L 0 L.length).length ≤ bigLen := by rw [partQ_all]; unfold bigLen; omega
  refine needs_i ((allP_iff).2 ⟨⟨by omega, hb, trivial⟩, ⟨by omega, by omega, trivial⟩⟩) ⟨fun _ => ⟨fun _ => ⟨fun _ => needs_i ((allP_iff).2 ⟨srcO_ok, ⟨by omega, trivial⟩⟩) ⟨fun _ => needs_i ⟨by omega, hb, trivial⟩ ⟨fun hg => ?_, fun hg => ?_⟩, fun h => ?_⟩, fun h => ?_⟩, fun h => (by cases h)⟩, fun h => ?_⟩
  · subst hg
    refine needs_i ((allP_iff).2 ⟨srcO_ok, srcO_ok⟩) ⟨fun _ => lastT_sat hG hP, fun h => ?_⟩
    rw [E_self] at h; cases h
  · subst hg
    refine needs_i ((allP_iff).2 ⟨srcO_ok, srcO_ok⟩) ⟨fun _ => lastT_sat hG hP, fun h => ?_⟩
    have h : E_same [[], []] = false := h
    rw [E_self] at h; cases h
  · rw [hy, partQ_all, E_self] at h; cases h
  · rw [eql_d, decide_eq_true rfl] at h; cases h
  · rw [E_self] at h; cases h
theorem padT2_sat {T PT L y : List Int} {G yo : Bool} {w : Int} {X : List Int} (hL : L.length ≤ 400) (hy : srcL yo y = L) (hG : G = true → 1 ≤ w ∧ w ≤ 1000) (hP : PT = wholeN w X) : (padT2 T T PT E_same G true (T.length : Int) yo y L.length L w).sat isY := by
  have hb : (partQ L 0 L.length).length ≤ bigLen := by rw [partQ_all]; unfold bigLen; omega
  refine needs_i ⟨by omega, hb, trivial⟩ ⟨fun h => ?_, fun h => ?_⟩
  · have := finT_sat (T := T) (PT := PT) (L := L) (y := y) (G := G) (yo := yo) (w := w) hL hy hG hP
    rw [h] at this ⊢; exact this
  · have := finT_sat (T := T) (PT := PT) (L := L) (y := y) (G := G) (yo := yo) (w := w) hL hy hG hP
    rw [h] at this ⊢; exact this
theorem text_told (M N : List Int) (h : M.length ≤ 1000) : tgB (textN M ++ N) = true ∧ tgE (textN M ++ N) = ((textN M).length : Int) ∧ tgM (textN M ++ N) = M := by
  have hx : 8 * M.length < 18446744073709551616 := by omega
  have e : textN M ++ N = leftN (8 * M.length) ++ (M ++ N) := by unfold textN; rw [List.append_assoc]
  obtain ⟨g1, g2, g3⟩ := get_left hx (M ++ N)
  rw [e]
  have hll := leftN_len (x := 8 * M.length)
  refine ⟨?_, ?_, ?_⟩
  · unfold tgB
    rw [g1, g2, g3, decide_eq_true (by omega), decide_eq_true (by rw [List.length_append, List.length_append]; omega)]
    rfl
  · unfold tgE
    rw [g2, g3]
    unfold textN
    rw [List.length_append]
    omega
  · unfold tgM
    rw [g2, g3, Int.toNat_natCast]
    have : (((8 * M.length : Nat) : Int) / 8).toNat = M.length := by omega
    rw [this, List.drop_append_of_le_length (by omega), List.drop_of_length_le (by omega), List.nil_append, List.take_append_of_le_length (by omega), List.take_of_length_le (by omega)]
set_option maxRecDepth 100000 in
theorem law_CodeTexts {H : Type} {enc : TypeId × Value → H} {W : World} {base : Nat} {args : Array Value} {ds : List (DataW H)} {ps : List MemPlace} (hT : DataW.TrodAll enc Tryd.prog W 0 (fun _ => true) true Tryd.f10.params.toList args.toList ds ps)
    (hval : ∀ (j : Nat) t v, Tryd.f10.params[j]? = some t → args[j]? = some v → Value.okWide Tryd.prog W .any base t v) :
    Calls Tryd.prog 10 args W fun e w' => e = .returned (.bool true) ∧ RowKit.Below W.heap.size W w' :=
  law_s (C := cTexts T_Text T_Text padT E_same tB gP tE tM) cokTexts rfl rfl fn_CodeTexts (shs := [.one (.s .u8), .one (.w .i64), .one (.s .u8)]) (by kernel_rfl) 1000
    (fun Ms hok => ⟨_, run_CodeTexts T_Text T_Text padT E_same tB gP tE tM ((Ms 1).getD 0 0) (Ms 0).length (Ms 2).length (Ms 0) (Ms 2), by
      generalize Ms 0 = M
      generalize Ms 2 = R
      generalize (Ms 1).getD 0 0 = w
      refine ⟨fun _ => .inr rfl, fun hm => ⟨fun _ => .inr rfl, fun hr => ?_⟩⟩
      have hm : ¬ (400 < (M.length : Int)) := of_decide_eq_false hm
      have hr : ¬ (100 < (R.length : Int)) := of_decide_eq_false hr
      rw [partQ_all, partQ_all]
      have hT1 : T_Text [M] = textN M := rfl
      rw [hT1]
      have hx : 8 * M.length < 18446744073709551616 := by omega
      have hll := leftN_small hx
      have hl1 := leftN_len (x := 8 * M.length)
      have htl : (textN M).length = (leftN (8 * M.length)).length + M.length := by unfold textN; rw [List.length_append]
      refine needs_i ⟨by omega, by unfold bigLen; omega, trivial⟩ ⟨fun h0 => absurd (of_decide_eq_true h0) (by omega), fun _ => ?_⟩
      rw [partQ_all, List.nil_append, partQ_all]
      obtain ⟨t1, t2, t3⟩ := text_told M R (by omega)
      have e1 : tB [textN M ++ R] = true := t1
      have e2 : tE [textN M ++ R] = ((textN M).length : Int) := t2
      have e3 : tM [textN M ++ R] = M := t3
      rw [e1, e2, e3]
      refine needs_i ⟨by omega, trivial, lenP_of (by omega), rfl, by omega, trivial, lenP_of (by rw [List.length_append]; omega), by omega, trivial⟩ (needs_i ⟨by unfold bigLen; rw [List.length_append]; omega, trivial⟩ ⟨fun _ => ⟨fun h => ?_, fun h => ?_⟩, fun h => (by cases h)⟩)
      · have h := of_decide_eq_true h
        refine padT2_sat (by omega) (by rw [h]; rfl) (fun hg => ?_) rfl
        have hg : (decide (1 ≤ w) && decide (w ≤ 1000)) = true := hg
        rw [Bool.and_eq_true] at hg
        exact ⟨of_decide_eq_true hg.1, of_decide_eq_true hg.2⟩
      · refine padT2_sat (by omega) (partQ_all M) (fun hg => ?_) rfl
        have hg : (decide (1 ≤ w) && decide (w ≤ 1000)) = true := hg
        rw [Bool.and_eq_true] at hg
        exact ⟨of_decide_eq_true hg.1, of_decide_eq_true hg.2⟩⟩) hT hval (fun p hp => by cases hp)
end Go.Proofs.YtpaphgdbfbkihaaDoor
