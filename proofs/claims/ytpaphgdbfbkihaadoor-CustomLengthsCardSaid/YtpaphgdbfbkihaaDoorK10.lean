/- Layer 16's reference: the number that bytes begin with. -/
import Derived.Test.YtpaphgdbfbkihaaDoorK9
namespace Go.Proofs.YtpaphgdbfbkihaaDoor
open Go Go.Ax

theorem fn_RGetLeft : FnOk Tryd.prog 25 Tryd.f25 := ⟨Tryd.func25, by kernel_rfl⟩
noncomputable def cRGet (T : List (List Int) → List Int) (E : List (List Int) → Bool) : Cfg := cfgM [] [] [qRLeftV T, qSameV E] [] []
def accR (L : List Int) : Nat → Int
  | 0 => 0
  | i + 1 => binI .add .u64 (binI .mul .u64 (accR L i) 256) (IntKind.u64.wrap (sel L (((0 : Nat) : Int) + ((i + 1 : Nat) : Int))))
def ixR (n : Nat) (L : List Int) (i : Nat) : List Prop := [0 ≤ (i : Int), (i : Int) < (n : Int), 0 ≤ ((0 : Nat) : Int) + (i : Int), ((0 : Nat) : Int) + (i : Int) < (L.length : Int)]
def ixsR (n : Nat) (L : List Int) : Nat → R2 → R2
  | 0, o => o
  | i + 1, o => ixsR n L i (needR (ixR n L (i + 1)) o)
def gotR (a b : Int) : R2 := .leaf (.p (.g [.i .u64 a, .e, .i .i64 b])) [0, 0, 0] []
def getR (T : List (List Int) → List Int) (E : List (List Int) → Bool) (n : Nat) (L : List Int) : List Nat → R2
  | [] => gotR 0 0
  | k :: ks => .br (cmpI .lss (k : Int) (n : Int)) (ixsR n L k (needR [(0 : Int) ≤ 0, 0 ≤ ((k + 1 : Nat) : Int), ((k + 1 : Nat) : Int) ≤ (n : Int), 0 + (T [[accR L k]]).length ≤ (T [[accR L k]]).length, 0 + (k + 1) ≤ L.length]
      (.br (E [partQ (T [[accR L k]]) 0 (T [[accR L k]]).length, partQ L 0 (k + 1)]) (gotR (accR L k) ((k + 1 : Nat) : Int)) (getR T E n L ks)))) (gotR 0 0)
theorem run_RGetLeft (T : List (List Int) → List Int) (E : List (List Int) → Bool) (n : Nat) (L : List Int) : (callA (cRGet T E) true 1000 Tryd.f25 [.one (.slr 0 1 0 n)] (memX gdM (bl_get L))).view =
    getR T E n L [1, 2, 3, 4, 5, 6, 7, 8] := by kernel_rfl

def T_RGet : List (List Int) → RT := fun l => .one (.p (.g [.i .u64 (glN (l.getD 0 [])), .e, .i .i64 (glS (l.getD 0 []))]))
def q_RGetLeft := (25, fsum [.one (.s .u8)] (fun _ => []) T_RGet)
theorem foldN_snoc {c : Int} : ∀ {l : List Int} {a : Int}, foldN a (l ++ [c]) = foldN a l * 256 + c
  | [], a => rfl
  | d :: l, a => by
    simp only [List.cons_append, foldN]
    exact foldN_snoc
theorem accR_eq {M : List Int} (h8 : ∀ y ∈ M, okI .u8 y) : ∀ {k : Nat}, k ≤ 8 → k < M.length → accR M k = foldN 0 ((M.drop 1).take k)
  | 0, _, _ => by simp [accR, foldN]
  | k + 1, h, hl => by
    have ih := accR_eq h8 (k := k) (by omega) (by omega)
    have hb := foldN_lt (l := (M.drop 1).take k) (a := 0) (j := 0) (by omega) (by decide) fun y hy => h8 y (List.mem_of_mem_drop (List.mem_of_mem_take hy))
    have hp := pow256 (j := 0 + ((M.drop 1).take k).length) (by simp; omega)
    have hsel : sel M (((0 : Nat) : Int) + ((k + 1 : Nat) : Int)) = M[k + 1] := sel_at hl
    have hok := h8 M[k + 1] (List.getElem_mem ..)
    unfold okI at hok
    simp [IntKind.min, IntKind.max, IntKind.bits, IntKind.signed] at hok
    have e3 : (M.drop 1).take (k + 1) = (M.drop 1).take k ++ [M[k + 1]] := by
      rw [List.take_succ_eq_append_getElem (by simp; omega)]
      congr 1
      simp
    rw [accR, ih, hsel, e3, foldN_snoc]
    generalize foldN 0 ((M.drop 1).take k) = a at *
    generalize M[k + 1] = c at *
    have e1 : binI .mul .u64 a 256 = a * 256 := wrap_ok (oku (by omega) (by omega))
    have e2 : IntKind.u64.wrap c = c := wrap_ok (oku (by omega) (by omega))
    rw [e1, e2]
    exact wrap_ok (oku (by omega) (by omega))
theorem ixsR_sat {K : RS → List Nat → List Nat → Prop} {M : List Int} {o : R2} (ho : o.sat K) : ∀ {k : Nat}, k < M.length → ∀ {o : R2}, o.sat K → (ixsR M.length M k o).sat K
  | 0, _, _, h => h
  | i + 1, hk, _, h => ixsR_sat ho (k := i) (by omega) (needR_sat ⟨by omega, by omega, by omega, by omega, trivial⟩ h)
theorem gotR_sat {M : List Int} {a b : Int} (h1 : glN M = a) (h2 : glS M = b) : (gotR a b).sat (RS.met (.p (.g [.i .u64 (glN M), .e, .i .i64 (glS M)]))) := by
  subst h1 h2
  exact ⟨rfl, ⟨trivial, trivial, trivial, trivial⟩, List.nodup_nil⟩
theorem gl_none {M : List Int} (h : glB M = false) : glN M = 0 ∧ glS M = 0 := by
  unfold glN glS
  rw [h]; exact ⟨rfl, rfl⟩
theorem getR_sat {M : List Int} (h8 : ∀ y ∈ M, okI .u8 y) : ∀ (ks : List Nat) (k : Nat), ks = (List.range' k (9 - k)) → 1 ≤ k → k ≤ 9 → (glB M = true → (k : Int) ≤ hd M) → (getR T_Left E_same M.length M ks).sat (RS.met (.p (.g [.i .u64 (glN M), .e, .i .i64 (glS M)])))
  | [], k, hks, h1, h9, hg => by
    have hk : k = 9 := by
      have := congrArg List.length hks
      simp at this; omega
    have hb : glB M = false := by
      cases hq : glB M with
      | false => rfl
      | true =>
        have := hg hq
        obtain ⟨_, _, q3, _⟩ := of_decide_eq_true hq
        omega
    obtain ⟨a, b⟩ := gl_none hb
    exact gotR_sat a b
  | j :: ks, k, hks, h1, h9, hg => by
    have hlen := congrArg List.length hks
    simp only [List.length_cons, List.length_range'] at hlen
    obtain ⟨d, hd'⟩ : ∃ d, 9 - k = d + 1 := ⟨8 - k, by omega⟩
    rw [hd', List.range'_succ] at hks
    obtain ⟨hj, hks⟩ := List.cons.inj hks
    subst hj
    have hks' : ks = List.range' (j + 1) (9 - (j + 1)) := by rw [hks]; congr 1; omega
    refine ⟨fun hc => ?_, fun hc => ?_⟩
    · have hc : (j : Int) < (M.length : Int) := of_decide_eq_true hc
      have hacc := accR_eq h8 (k := j) (by omega) (by omega)
      have hfb := foldN_lt (l := (M.drop 1).take j) (a := 0) (j := 0) (by omega) (by decide) fun y hy => h8 y (List.mem_of_mem_drop (List.mem_of_mem_take hy))
      have hpw := pow256' (k := 0 + ((M.drop 1).take j).length) (by simp; omega)
      rw [hacc]
      have hT : T_Left [[foldN 0 ((M.drop 1).take j)]] = leftN (foldN 0 ((M.drop 1).take j)).toNat := rfl
      rw [hT, partQ_all, partQ_eq, List.drop_zero]
      have hE : E_same [leftN (foldN 0 ((M.drop 1).take j)).toNat, M.take (j + 1)] = decide (leftN (foldN 0 ((M.drop 1).take j)).toNat = M.take (j + 1)) := rfl
      rw [hE]
      have inner : ∀ {K : RS → List Nat → List Nat → Prop} {o : R2}, o.sat K → (ixsR M.length M j o).sat K := fun h => ixsR_sat h (by omega) h
      refine inner (needR_sat ⟨by omega, by omega, by omega, by omega, by omega, trivial⟩ ⟨fun he => ?_, fun he => getR_sat h8 ks (j + 1) hks' (by omega) (by omega) fun hgb => ?_⟩)
      · have he := of_decide_eq_true he
        have hl := congrArg List.length he
        rw [leftN_len, List.length_take] at hl
        have hnb : nbN (foldN 0 ((M.drop 1).take j)).toNat = j := by omega
        have hh : hd M = (j : Int) := by
          match M, hc with
          | a :: l, _ =>
            rw [List.take_succ_cons] at he
            have := (List.cons.inj he).1
            rw [hnb] at this
            exact this.symm
        have hnO : nOf M = foldN 0 ((M.drop 1).take j) := by unfold nOf; rw [hh, Int.toNat_natCast]
        have hgb : glB M = true := by
          refine decide_eq_true ⟨by omega, by omega, by omega, by omega, ?_⟩
          rw [hnO, hh, Int.toNat_natCast, he]
          congr 1
          omega
        refine gotR_sat ?_ ?_
        · unfold glN; rw [hgb]; exact hnO
        · unfold glS; rw [hgb, hh]
          show 1 + (j : Int) = ((j + 1 : Nat) : Int)
          omega
      · have := hg hgb
        have he := of_decide_eq_false he
        obtain ⟨_, _, _, _, q5⟩ := of_decide_eq_true hgb
        rcases Int.lt_or_eq_of_le this with hlt | heq
        · omega
        · exfalso
          refine he ?_
          have hnO : nOf M = foldN 0 ((M.drop 1).take j) := by unfold nOf; rw [← heq, Int.toNat_natCast]
          rw [← hnO, q5, ← heq, Int.toNat_natCast]
          congr 1
          omega
    · have hc : ¬ (j : Int) < (M.length : Int) := of_decide_eq_false hc
      have hb : glB M = false := by
        cases hq : glB M with
        | false => rfl
        | true =>
          have := hg hq
          obtain ⟨_, _, _, q4, _⟩ := of_decide_eq_true hq
          omega
      obtain ⟨a, b⟩ := gl_none hb
      exact gotR_sat a b
set_option maxHeartbeats 2000000 in
set_option maxRecDepth 100000 in
theorem qs_RGetLeft : FOk cM q_RGetLeft.1 q_RGetLeft.2 :=
  upM (fok_run (C := cRGet T_Left E_same) (shs := [.one (.s .u8)]) (T := T_RGet) (conds := fun _ => []) (cokM mem0 mem0 (memc qs_RLeft (mem1 qs_Same)) mem0) rfl rfl fn_RGetLeft (by kernel_rfl) 1000 fun Ms hok _ => ⟨_, rfl, view_sat (by
    obtain ⟨⟨_, h8⟩, _⟩ := hok
    have hs := getR_sat h8 [1, 2, 3, 4, 5, 6, 7, 8] 1 (by decide) (by omega) (by omega) fun hg => (of_decide_eq_true hg).2.1
    refine Eq.mpr (congrArg (R2.sat _) (run_RGetLeft T_Left E_same (Ms 0).length (Ms 0))) ?_
    show R2.sat (RS.met (.p (.g [.i .u64 (glN (Ms 0)), .e, .i .i64 (glS (Ms 0))]))) _
    exact hs)⟩)
end Go.Proofs.YtpaphgdbfbkihaaDoor
