/- Layer 13: the rounds' summaries. -/
import Derived.Test.YtpnikmkijedmbaaDoorSp4
namespace Go.Proofs.YtpnikmkijedmbaaDoor
open Go Go.Ax

def Rn (es : List Int) (r : Int) (i : Nat) : Int := nth (roundL es r) i
theorem roundL_len (es : List Int) (r : Int) : (roundL es r).length = 25 := by simp [roundL, iotaL, tab]
theorem Rn_tab (es : List Int) (r : Int) : tab 25 (Rn es r) = roundL es r := tab_self (roundL_len es r)
theorem TRn : (fun l : List (List Int) => GR.p (.l .u64 (tab 25 (Rn (row0 l) (one l 1))))) = T_Round := by funext l; rw [Rn_tab]; rfl
theorem ps_RoundV : PSOk (cfg [] []) (pRoundV Rn).1 (pRoundV Rn).2 := by
  have : pRoundV Rn = p_Round := by unfold pRoundV p_Round; rw [TRn]
  rw [this]; exact ps_Round
theorem ps_R13RoundV : PSOk (cfg [] []) (pR13RoundV Rn).1 (pR13RoundV Rn).2 := by
  have : pR13RoundV Rn = p_R13Round := by unfold pR13RoundV p_R13Round; rw [TRn]
  rw [this]; exact ps_R13Round

/-! ## Rounds in a row -/

def RL (R : List Int → Int → Nat → Int) (es : List Int) (r : Int) : List Int := tab 25 (R es r)
theorem seqL_add (R : List Int → Int → List Int) : ∀ (m n s : Nat) (es : List Int), seqL R (m + n) s es = seqL R n (s + m) (seqL R m s es)
  | 0, n, s, es => by simp [seqL]
  | m + 1, n, s, es => by
    rw [show m + 1 + n = (m + n) + 1 by omega]
    simp only [seqL]
    rw [seqL_add R m n (s + 1), show s + 1 + m = s + (m + 1) by omega]
theorem clamp_spec (z : Int) : 0 ≤ clampI z ∧ clampI z ≤ 24 ∧ (z ≤ 0 → clampI z = 0) ∧ (24 ≤ z → clampI z = 24) ∧ (0 ≤ z → z ≤ 24 → clampI z = z) := by
  unfold clampI mmI iteI
  by_cases h1 : 0 > z
  · simp [h1]; omega
  · by_cases h2 : 24 < z
    · simp [h1, h2]; omega
    · simp [h1, h2]; omega
theorem seqL_len {R : List Int → Int → Nat → Int} : ∀ (d s : Nat) (es : List Int), es.length = 25 → (seqL (RL R) d s es).length = 25
  | 0, _, _, h => h
  | d + 1, s, es, _ => by simp only [seqL]; exact seqL_len d (s + 1) _ (by simp [RL, tab])
theorem seqL_tab {R : List Int → Int → Nat → Int} {d s : Nat} {es : List Int} (h : es.length = 25) : tab 25 (nth (seqL (RL R) d s es)) = seqL (RL R) d s es := tab_self (seqL_len d s es h)

theorem treeV_sat {R : List Int → Int → Nat → Int} {e : Int} {K : AV → Mem → Prop} : ∀ (d s : Nat) (es : List Int), 0 < d → e < s + d → K (L25 (seqL (RL R) (e - s).toNat s es)) Mem.empty → (treeV R e d s es).sat K
  | 0, _, _, h, _, _ => absurd h (by omega)
  | d + 1, s, es, _, h, hk => by
    refine ⟨fun hc => ?_, fun hc => ?_⟩
    · have hc := of_decide_eq_true hc
      refine treeV_sat d (s + 1) _ (by omega) (by omega) ?_
      have e1 : (e - (s : Int)).toNat = (e - ((s + 1 : Nat) : Int)).toNat + 1 := by omega
      rw [e1] at hk
      exact hk
    · have hc := of_decide_eq_false hc
      have e1 : (e - (s : Int)).toNat = 0 := by omega
      rw [e1] at hk
      exact hk
theorem splitV_sat {e : Int} {go : Nat → Out} {K : AV → Mem → Prop} : ∀ {vs : List Nat}, (∀ v ∈ vs, e = (v : Int) → (go v).sat K) → (∃ v ∈ vs, e = (v : Int)) → (splitV e go vs).sat K
  | [], _, ⟨_, h, _⟩ => by cases h
  | v :: vs, h, ⟨u, hu, hru⟩ => ⟨fun hc => h v (List.mem_cons_self ..) (of_decide_eq_true hc), fun hc => splitV_sat (fun x hx => h x (List.mem_cons_of_mem _ hx)) (by
      rcases List.mem_cons.1 hu with rfl | hu
      · exact absurd hru (of_decide_eq_false hc)
      · exact ⟨u, hu, hru⟩)⟩

def roundsN (es : List Int) (a b : Int) : List Int := tab 25 (nth (roundsL (RL Rn) es a b))
def T_Rounds : List (List Int) → GR := fun l => .p (.l .u64 (roundsN (row0 l) (one l 1) (one l 2)))
theorem roundsN_eq {es : List Int} (h : es.length = 25) (a b : Int) : roundsN es a b = roundsL (RL Rn) es a b := seqL_tab h

def p_Rounds := (33, gsum [.l .u64 25, .w .i64, .w .i64] (fun _ => []) T_Rounds)
theorem ps_Rounds : PSOk (cfg [] []) p_Rounds.1 p_Rounds.2 :=
  (psok_e (C := cRounds Rn) (cokS (by simp) (fun p hp => by simp at hp; subst hp; exact ps_RoundV)) rfl rfl fn_Rounds rfl 33 (fun fs => [L25 (tab 25 (fs 0)), .one (.si .i64 (fs 1 0)), .one (.si .i64 (fs 2 0))]) (fun _ => rfl) fun fs _ _ => by
    refine ⟨_, run_Rounds Rn (fs 0) (fs 1 0) (fs 2 0), splitV_sat (fun v hv hr => ?_) ⟨(clampI (fs 1 0)).toNat, ?_⟩⟩
    · have hv := List.mem_range.1 hv
      have hb := clamp_spec (fs 2 0)
      refine treeV_sat 25 v _ (by omega) (by omega) (sat_same ?_)
      show L25 _ = L25 (roundsN (tab 25 (fs 0)) (fs 1 0) (fs 2 0))
      rw [roundsN_eq (by simp [tab])]
      unfold roundsL
      rw [hr, Int.toNat_natCast]
    · have ha := clamp_spec (fs 1 0)
      exact ⟨List.mem_range.2 (by omega), by omega⟩).cast rfl rfl rfl

/-! ## The document's -/

def refL (R : List Int → Int → Nat → Int) (a b : Int) : Nat → Nat → List Int → List Int
  | 0, _, es => es
  | d + 1, i, es => refL R a b d (i + 1) (if a ≤ (i : Int) ∧ (i : Int) < b then RL R es i else es)
theorem refF_L {R : List Int → Int → Nat → Int} {a b : Int} : ∀ (d i : Nat) (f : Nat → Int), tab 25 (refF R a b d i f) = refL R a b d i (tab 25 f)
  | 0, _, _ => rfl
  | d + 1, i, f => by
    simp only [refF, refL]
    rw [refF_L d (i + 1)]
    congr 1
    unfold stepF
    split <;> rfl
theorem refL_seq {R : List Int → Int → Nat → Int} {a b : Int} : ∀ (d i : Nat) (es : List Int), i + d = 24 → refL R a b d i es = seqL (RL R) ((clampI b).toNat - max i (clampI a).toNat) (max i (clampI a).toNat) es := by
  have ha := clamp_spec a
  have hb := clamp_spec b
  intro d
  induction d with
  | zero =>
    intro i es h
    rw [show (clampI b).toNat - max i (clampI a).toNat = 0 by omega]
    rfl
  | succ d ih =>
    intro i es h
    simp only [refL]
    rw [ih (i + 1) _ (by omega)]
    by_cases hc : a ≤ (i : Int) ∧ (i : Int) < b
    · rw [if_pos hc]
      have h1 : (clampI a).toNat ≤ i := by
        by_cases h0 : a ≤ 0
        · have := ha.2.2.1 h0; omega
        · have := ha.2.2.2.2 (by omega) (by omega); omega
      have h2 : i < (clampI b).toNat := by
        by_cases h0 : 24 ≤ b
        · have := hb.2.2.2.1 h0; omega
        · have := hb.2.2.2.2 (by omega) (by omega); omega
      rw [show max (i + 1) (clampI a).toNat = i + 1 by omega, show max i (clampI a).toNat = i by omega, show (clampI b).toNat - i = ((clampI b).toNat - (i + 1)) + 1 by omega]
      rfl
    · rw [if_neg hc]
      by_cases h1 : a ≤ (i : Int)
      · have h3 : ¬ (i : Int) < b := fun h => hc ⟨h1, h⟩
        have h2 : (clampI b).toNat ≤ i := by
          by_cases h0 : b ≤ 0
          · have := hb.2.2.1 h0; omega
          · have := hb.2.2.2.2 (by omega) (by omega); omega
        rw [show (clampI b).toNat - max (i + 1) (clampI a).toNat = 0 by omega, show (clampI b).toNat - max i (clampI a).toNat = 0 by omega]
        rfl
      · have h2 : i < (clampI a).toNat := by
          by_cases h0 : 24 ≤ a
          · have := ha.2.2.2.1 h0; omega
          · have := ha.2.2.2.2 (by omega) (by omega); omega
        rw [show max (i + 1) (clampI a).toNat = max i (clampI a).toNat by omega]

theorem fn_RRounds : FnOk Tryd.prog 34 Tryd.f34 := ⟨Tryd.func34, by kernel_rfl⟩
theorem run_RRounds (R : List Int → Int → Nat → Int) (f : Nat → Int) (a b : Int) : callA (cfgL [] [] [] [(2, bd_rr, F_rr R)]) false 100 Tryd.f34 [L25 (tab 25 f), .one (.si .i64 a), .one (.si .i64 b)] (memG gdA) =
    .need (bd_rr = bd_rr) (.done (L25 (tab 25 (refF R a b 24 0 (nth (tab 25 f))))) Mem.empty) := by kernel_rfl
def p_RRounds := (34, gsum [.l .u64 25, .w .i64, .w .i64] (fun _ => []) T_Rounds)
theorem cok_RRL : COk (cRRL Rn) := cok (by simp) (fun p hp => by simp at hp; subst hp; exact ps_R13RoundV)
theorem ps_RRounds : PSOk (cfg [] []) p_RRounds.1 p_RRounds.2 :=
  (psok_e (C := cfgL [] [] [] [(2, bd_rr, F_rr Rn)]) (cokL (by simp) (by simp) (fun p hp => by simp at hp; subst hp; exact lp_rr cok_RRL)) rfl rfl fn_RRounds rfl 100 (fun fs => [L25 (tab 25 (fs 0)), .one (.si .i64 (fs 1 0)), .one (.si .i64 (fs 2 0))]) (fun _ => rfl) fun fs _ _ =>
    ⟨_, run_RRounds Rn (fs 0) (fs 1 0) (fs 2 0), rfl, sat_same (by
      show L25 _ = L25 (roundsN (tab 25 (fs 0)) (fs 1 0) (fs 2 0))
      rw [roundsN_eq (by simp [tab]), refF_L, show tab 25 (nth (tab 25 (fs 0))) = tab 25 (fs 0) from tab_self (by simp [tab]), refL_seq 24 0 _ rfl]
      have ha := clamp_spec (fs 1 0)
      have hb := clamp_spec (fs 2 0)
      rw [show max 0 (clampI (fs 1 0)).toNat = (clampI (fs 1 0)).toNat by omega]
      unfold roundsL
      rw [show (clampI (fs 2 0) - clampI (fs 1 0)).toNat = (clampI (fs 2 0)).toNat - (clampI (fs 1 0)).toNat by omega])⟩).cast rfl rfl rfl

/-! ## All rounds -/

theorem fn_F : FnOk Tryd.prog 31 Tryd.f31 := ⟨Tryd.func31, by kernel_rfl⟩
def T_F : List (List Int) → GR := fun l => .p (.l .u64 (roundsN (row0 l) 0 24))
def p_F := (31, gsum [.l .u64 25] (fun _ => []) T_F)
theorem run_F (f : Nat → Int) : callA (cfg [] [p_Rounds]) false 100 Tryd.f31 [L25 (tab 25 f)] (memG gdA) = .done (L25 (roundsN (tab 25 f) 0 24)) Mem.empty := by kernel_rfl
theorem ps_F : PSOk (cfg [] []) p_F.1 p_F.2 :=
  up (psok_e (C := cfg [] [p_Rounds]) (cok (by simp) (by simp [ps_Rounds])) rfl rfl fn_F rfl 100 (fun fs => [L25 (tab 25 (fs 0))]) (fun _ => rfl) fun fs _ _ => ⟨_, run_F (fs 0), sat_same rfl⟩)
theorem fn_RF : FnOk Tryd.prog 32 Tryd.f32 := ⟨Tryd.func32, by kernel_rfl⟩
def p_RF := (32, gsum [.l .u64 25] (fun _ => []) T_F)
theorem run_RF (f : Nat → Int) : callA (cfg [] [p_RRounds]) false 100 Tryd.f32 [L25 (tab 25 f)] (memG gdA) = .done (L25 (roundsN (tab 25 f) 0 24)) Mem.empty := by kernel_rfl
theorem ps_RF : PSOk (cfg [] []) p_RF.1 p_RF.2 :=
  up (psok_e (C := cfg [] [p_RRounds]) (cok (by simp) (by simp [ps_RRounds])) rfl rfl fn_RF rfl 100 (fun fs => [L25 (tab 25 (fs 0))]) (fun _ => rfl) fun fs _ _ => ⟨_, run_RF (fs 0), sat_same rfl⟩)

end Go.Proofs.YtpnikmkijedmbaaDoor
