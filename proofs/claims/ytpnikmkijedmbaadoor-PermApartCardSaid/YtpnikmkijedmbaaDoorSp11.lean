/- Layer 13: the laws PermBack and PermApart. -/
import Derived.Test.YtpnikmkijedmbaaDoorSp10
namespace Go.Proofs.YtpnikmkijedmbaaDoor
open Go Go.Ax

theorem fn_PermBack : FnOk Tryd.prog 12 Tryd.f12 := ⟨Tryd.func12, by kernel_rfl⟩
theorem run_PermBack (f : Nat → Int) (r : Int) : callA (cfg [] [p_wakes13, p_Back, p_R13Round, p_Round]) false 1000 Tryd.f12 [L25 (tab 25 f), .one (.si .i64 r)] (memG gdA) =
    andTree (eqL (backL (roundL (tab 25 f) r) r) (tab 25 f)) [eqL (roundL (backL (tab 25 f) r) r) (tab 25 f)] := by kernel_rfl
theorem law_PermBack {W : World} {base : Nat} {args : Array Value} (hsz : Tryd.f12.params.toList.length = args.toList.length)
    (hval : ∀ (j : Nat) t v, Tryd.f12.params[j]? = some t → args[j]? = some v → Value.okWide Tryd.prog W .any base t v) (hgd : GD gdA W.heap.size W) :
    Calls Tryd.prog 12 args W fun e w' => e = .returned (.bool true) ∧ RowKit.Below W.heap.size W w' :=
  law_e (C := cfg [] [p_wakes13, p_Back, p_R13Round, p_Round]) (cok (by simp) (by simp [ps_wakes13, ps_Back, ps_R13Round, ps_Round])) rfl rfl fn_PermBack (shs := [.l .u64 25, .w .i64]) (by kernel_rfl) 1000
    (fun fs => [L25 (tab 25 (fs 0)), .one (.si .i64 (fs 1 0))]) (fun _ => rfl) (fun fs h => ⟨_, run_PermBack (fs 0) (fs 1 0), andTree_sat (by rw [back_round len_tab h.1.2, eqL_self]) fun c hc => by
        simp only [List.mem_cons, List.not_mem_nil, or_false] at hc
        rw [hc, round_back len_tab h.1.2, eqL_self]⟩) hsz hval hgd

/-! ## Apart -/

theorem seq_inj : ∀ (d s : Nat) {es es' : List Int}, es.length = 25 → es'.length = 25 → okE es → okE es' → seqL (RL Rn) d s es = seqL (RL Rn) d s es' → es = es'
  | 0, _, _, _, _, _, _, _, h => h
  | d + 1, s, es, es', h1, h2, h3, h4, h => by
    simp only [seqL] at h
    have e : ∀ l, RL Rn l (s : Int) = roundL l s := fun l => Rn_tab l _
    rw [e, e] at h
    have := seq_inj d (s + 1) (roundL_len _ _) (roundL_len _ _) (roundL_ok _ _) (roundL_ok _ _) h
    rw [← back_round h1 h3 (s : Int), this, back_round h2 h4]
theorem F_inj {es es' : List Int} (h1 : es.length = 25) (h2 : es'.length = 25) (h3 : okE es) (h4 : okE es') (h : roundsN es 0 24 = roundsN es' 0 24) : es = es' := by
  rw [roundsN_eq h1, roundsN_eq h2] at h
  exact seq_inj 24 0 h1 h2 h3 h4 h
theorem eqL_eq : ∀ {l l' : List Int}, l.length = l'.length → eqL l l' = true → l = l'
  | [], [], _, _ => rfl
  | a :: l, b :: l', hl, h => by
    simp only [eqL, Bool.and_eq_true, beq_iff_eq] at h
    rw [h.1, eqL_eq (by simpa using hl) h.2]
  | [], _ :: _, hl, _ => by cases hl
  | _ :: _, [], hl, _ => by cases hl

def setX (f : Nat → Int) (k : Nat) (x : Int) : Nat → Int := fun i => match Nat.beq i k with | true => xo (f i) x | false => f i
def pFV (F : List Int → Nat → Int) := (31, gsum [.l .u64 25] (fun _ => []) fun l => .p (.l .u64 (tab 25 (F (row0 l)))))
theorem fn_PermApart : FnOk Tryd.prog 11 Tryd.f11 := ⟨Tryd.func11, by kernel_rfl⟩
noncomputable def cApart (F : List Int → Nat → Int) : Cfg := cfgS [] [p_wakes13, pFV F] [(4, (1, (List.range 256).map fun (n : Nat) => (n : Int)))]
theorem run_PermApart (F : List Int → Nat → Int) (f : Nat → Int) (i x : Int) : callA (cApart F) false 1000 Tryd.f11 [L25 (tab 25 f), .one (.si .u8 i), .one (.si .u64 x)] (memG gdA) =
    splitV i (fun v => .done (.one (.sb (eqL (tab 25 (F (tab 25 f))) (tab 25 (F (tab 25 (setX f (v % 25) x)))) == cmpI .eql x 0))) Mem.empty) (List.range 256) := by kernel_rfl
def Fn (es : List Int) (i : Nat) : Int := nth (roundsN es 0 24) i
theorem Fn_tab (es : List Int) : tab 25 (Fn es) = roundsN es 0 24 := tab_self (by simp [roundsN, tab])
theorem ps_FV : PSOk (cfg [] []) (pFV Fn).1 (pFV Fn).2 := by
  have : pFV Fn = p_F := by unfold pFV p_F T_F; rw [show (fun l : List (List Int) => GR.p (.l .u64 (tab 25 (Fn (row0 l))))) = fun l => GR.p (.l .u64 (roundsN (row0 l) 0 24)) from funext fun l => by rw [Fn_tab]]
  rw [this]; exact ps_F
theorem apart {f : Nat → Int} {x : Int} (ho : okE (tab 25 f)) (hx : okI .u64 x) {k : Nat} (hk : k < 25) : (eqL (tab 25 (Fn (tab 25 f))) (tab 25 (Fn (tab 25 (setX f k x)))) == cmpI .eql x 0) = true := by
  have hof : ∀ i, i < 25 → okI .u64 (f i) := fun i hi => ho _ (List.mem_map.2 ⟨i, List.mem_range.2 hi, rfl⟩)
  have ho' : okE (tab 25 (setX f k x)) := okE_tab fun i hi => by
    unfold setX
    split
    · exact xo_ok _ _
    · exact hof i hi
  rw [Fn_tab, Fn_tab]
  by_cases h0 : x = 0
  · subst h0
    have e : tab 25 (setX f k 0) = tab 25 f := tab_congr fun i hi => by
      unfold setX
      split
      · refine eq_of_bv (xo_ok _ _) (hof i hi) ?_
        rw [bv_xo, show bv 0 = 0#64 from rfl, BitVec.xor_zero]
      · rfl
    rw [e, eqL_self]
    rfl
  · have e1 : cmpI .eql x 0 = false := by simp [cmpI]; exact h0
    have e2 : eqL (roundsN (tab 25 f) 0 24) (roundsN (tab 25 (setX f k x)) 0 24) = false := by
      cases hq : eqL (roundsN (tab 25 f) 0 24) (roundsN (tab 25 (setX f k x)) 0 24) with
      | false => rfl
      | true =>
        exfalso
        have h1 := F_inj len_tab len_tab ho ho' (eqL_eq (by simp [roundsN, tab]) hq)
        have h2 : nth (tab 25 f) k = nth (tab 25 (setX f k x)) k := congrArg (fun l => nth l k) h1
        rw [nth_tab hk, nth_tab hk] at h2
        unfold setX at h2
        rw [Nat.beq_refl] at h2
        have h2 : f k = xo (f k) x := h2
        have h3 := congrArg bv h2
        rw [bv_xo] at h3
        refine h0 (eq_of_bv hx (by decide) ?_)
        have h4 : bv (f k) ^^^ bv (f k) = bv (f k) ^^^ (bv (f k) ^^^ bv x) := by rw [← h3]
        rw [BitVec.xor_self, ← BitVec.xor_assoc, BitVec.xor_self, BitVec.zero_xor] at h4
        rw [← h4]
        rfl
    rw [e1, e2]
    rfl
theorem law_PermApart {W : World} {base : Nat} {args : Array Value} (hsz : Tryd.f11.params.toList.length = args.toList.length)
    (hval : ∀ (j : Nat) t v, Tryd.f11.params[j]? = some t → args[j]? = some v → Value.okWide Tryd.prog W .any base t v) (hgd : GD gdA W.heap.size W) :
    Calls Tryd.prog 11 args W fun e w' => e = .returned (.bool true) ∧ RowKit.Below W.heap.size W w' :=
  law_e (C := cApart Fn) (cokS (by simp) (fun p hp => by
      simp only [List.mem_cons, List.not_mem_nil, or_false] at hp
      rcases hp with rfl | rfl
      · exact ps_wakes13
      · exact ps_FV)) rfl rfl fn_PermApart (shs := [.l .u64 25, .w .u8, .w .u64]) (by kernel_rfl) 1000
    (fun fs => [L25 (tab 25 (fs 0)), .one (.si .u8 (fs 1 0)), .one (.si .u64 (fs 2 0))]) (fun _ => rfl) (fun fs h => ⟨_, run_PermApart Fn (fs 0) (fs 1 0) (fs 2 0), splitV_sat (fun v hv hr => .inl (by
      rw [apart h.1.2 (h.2.2.1.2 _ (List.mem_map.2 ⟨0, by simp [Sh.len], rfl⟩)) (Nat.mod_lt _ (by decide))])) (by
      have hi : okI .u8 (fs 1 0) := h.2.1.2 _ (List.mem_map.2 ⟨0, by simp [Sh.len], rfl⟩)
      have hi' : 0 ≤ fs 1 0 ∧ fs 1 0 ≤ 255 := by unfold okI at hi; simp [IntKind.min, IntKind.max, IntKind.bits, IntKind.signed] at hi; omega
      exact ⟨(fs 1 0).toNat, List.mem_range.2 (by omega), by omega⟩)⟩) hsz hval hgd

end Go.Proofs.YtpnikmkijedmbaaDoor
