import Derived.Test.YtmiongjabbpmkaaDoorZ10
namespace Go.Proofs.YtmiongjabbpmkaaDoor
open Go Go.Ax
set_option linter.unusedSectionVars false
variable [JW]
def L5 (es : List Int) : AV := .agg (es.map (.si .u64))
def chi5 (es : List Int) : List Int := tab 5 fun x => xo (nth es x) (binI .andNot .u64 (nth es ((x + 2) % 5)) (nth es ((x + 1) % 5)))
def chi5R (es : List Int) : List Int := tab 5 fun x => xo (nth es x) (binI .and .u64 (unI .xor .u64 (nth es ((x + 1) % 5))) (nth es ((x + 2) % 5)))
theorem not_and (b c : Int) : binI .and .u64 (unI .xor .u64 b) c = binI .andNot .u64 c b := by
  rw [not_nb, and_nb, andNot_nb, bv_nb, BitVec.and_comm]
theorem chi5R_eq (es : List Int) : chi5R es = chi5 es := tab_congr fun i _ => by rw [not_and]
theorem fn_chi5 : FnOk Tryd.prog 87 Tryd.f87 := ⟨Tryd.func87, by kernel_rfl⟩
theorem run_chi5 (f : Nat → Int) : callA (cfg [] []) false 3000 Tryd.f87 [L5 (tab 5 f)] (memG gdA) = .done (L5 (chi5R (tab 5 f))) Mem.empty := by kernel_rfl
def p_chi5 := (87, gsum [.l .u64 5] (fun _ => []) fun l => .p (.l .u64 (chi5 (row0 l))))
theorem ps_chi5 : PSOk (cfg [] []) p_chi5.1 p_chi5.2 :=
  up (psok_e (C := cfg [] []) (cok (by simp) (by simp)) rfl rfl fn_chi5 rfl 3000 (fun fs => [L5 (tab 5 (fs 0))]) (fun _ => rfl) fun fs _ _ =>
    ⟨_, run_chi5 (fs 0), sat_same (by rw [chi5R_eq]; rfl)⟩)
def roundG (es : List Int) (r : Int) : List Int := iotaL (chiL (piL (rhoL (thetaG (xo 0) es)))) r
theorem fn_Round : FnOk Tryd.prog 75 Tryd.f75 := ⟨Tryd.func75, by kernel_rfl⟩
theorem run_Round (f : Nat → Int) (r : Int) : callA (cfg [] [p_Turn, p_Offset, p_chi5, p_Constant]) false 3000 Tryd.f75 [L25 (tab 25 f), .one (.si .i64 r)] (memG gdA) = .done (L25 (roundG (tab 25 f) r)) Mem.empty := by kernel_rfl
def p_Round := (75, gsum [.l .u64 25, .w .i64] (fun _ => []) T_Round)
theorem ps_Round : PSOk (cfg [] []) p_Round.1 p_Round.2 :=
  up (psok_e (C := cfg [] [p_Turn, p_Offset, p_chi5, p_Constant]) (cok (by simp) (by simp [ps_Turn, ps_Offset, ps_chi5, ps_Constant])) rfl rfl fn_Round rfl 3000 (fun fs => [L25 (tab 25 (fs 0)), .one (.si .i64 (fs 1 0))]) (fun _ => rfl) fun fs h _ =>
    ⟨_, run_Round (fs 0) (fs 1 0), sat_same (by unfold roundG; rw [show thetaG (xo 0) (tab 25 (fs 0)) = thetaL (tab 25 (fs 0)) from thetaG_0 h.1.2]; rfl)⟩)
end Go.Proofs.YtmiongjabbpmkaaDoor

namespace Go.Proofs.YtmiongjabbpmkaaDoor
open Go Go.Ax
set_option linter.unusedSectionVars false
variable [JW]
def seqL (R : List Int → Int → List Int) : Nat → Nat → List Int → List Int
  | 0, _, es => es
  | d + 1, s, es => seqL R d (s + 1) (R es (s : Int))
def clampI (z : Int) : Int := mmI true (mmI false z 0) 24
def roundsL (R : List Int → Int → List Int) (es : List Int) (a b : Int) : List Int := seqL R (clampI b - clampI a).toNat (clampI a).toNat es
def pRoundV (R : List Int → Int → Nat → Int) := (75, gsum [.l .u64 25, .w .i64] (fun _ => []) fun l => .p (.l .u64 (tab 25 (R (row0 l) (one l 1)))))
def treeV (R : List Int → Int → Nat → Int) (e : Int) : Nat → Nat → List Int → Out
  | 0, _, _ => .bad 0
  | d + 1, s, es => .br (decide ((s : Int) < e)) (treeV R e d (s + 1) (tab 25 (R es s))) (.done (L25 es) Mem.empty)
def splitV (e : Int) (go : Nat → Out) : List Nat → Out
  | [] => .bad 30
  | v :: vs => .br (decide (e = (v : Int))) (go v) (splitV e go vs)
theorem fn_Rounds : FnOk Tryd.prog 65 Tryd.f65 := ⟨Tryd.func65, by kernel_rfl⟩
noncomputable def cRounds (R : List Int → Int → Nat → Int) : Cfg := cfgS [] [pRoundV R] [(2, (7, (List.range 25).map fun (n : Nat) => (n : Int)))]
theorem run_Rounds (R : List Int → Int → Nat → Int) (f : Nat → Int) (a b : Int) : callA (cRounds R) false 33 Tryd.f65 [L25 (tab 25 f), .one (.si .i64 a), .one (.si .i64 b)] (memG gdA) =
    splitV (clampI a) (fun v => treeV R (clampI b) 25 v (tab 25 f)) (List.range 25) := by kernel_rfl
end Go.Proofs.YtmiongjabbpmkaaDoor

namespace Go.Proofs.YtmiongjabbpmkaaDoor
open Go Go.Ax
set_option linter.unusedSectionVars false
variable [JW]
end Go.Proofs.YtmiongjabbpmkaaDoor

namespace Go.Proofs.YtmiongjabbpmkaaDoor
open Go Go.Ax
set_option linter.unusedSectionVars false
variable [JW]
def Rn (es : List Int) (r : Int) (i : Nat) : Int := nth (roundL es r) i
theorem roundL_len (es : List Int) (r : Int) : (roundL es r).length = 25 := by simp [roundL, iotaL, tab]
theorem Rn_tab (es : List Int) (r : Int) : tab 25 (Rn es r) = roundL es r := tab_self (roundL_len es r)
theorem TRn : (fun l : List (List Int) => GR.p (.l .u64 (tab 25 (Rn (row0 l) (one l 1))))) = T_Round := by funext l; rw [Rn_tab]; rfl
theorem ps_RoundV : PSOk (cfg [] []) (pRoundV Rn).1 (pRoundV Rn).2 := by
  have : pRoundV Rn = p_Round := by unfold pRoundV p_Round; rw [TRn]
  rw [this]; exact ps_Round
def RL (R : List Int → Int → Nat → Int) (es : List Int) (r : Int) : List Int := tab 25 (R es r)
theorem clamp_spec (z : Int) : 0 ≤ clampI z ∧ clampI z ≤ 24 ∧ (z ≤ 0 → clampI z = 0) ∧ (24 ≤ z → clampI z = 24) ∧ (0 ≤ z → z ≤ 24 → clampI z = z) := by
  unfold clampI mmI iteI
  by_cases h1 : 0 > z
  · simp [h1]; omega
  · by_cases h2 : 24 < z
    · simp [h1, h2]; omega
    · simp [h1, h2]; omega
theorem seqL_len {R : List Int → Int → Nat → Int} : ∀ (d s : Nat) (es : List Int), es.length = 25 → (seqL (RL R) d s es).length = 25
  | 0, _, _, h => h
  | d + 1, s, es, _ => by simp only [seqL]; exact seqL_len d (s + 1) _ (by simp [RL, tab])
theorem seqL_tab {R : List Int → Int → Nat → Int} {d s : Nat} {es : List Int} (h : es.length = 25) : tab 25 (nth (seqL (RL R) d s es)) = seqL (RL R) d s es := tab_self (seqL_len d s es h)
theorem treeV_sat {R : List Int → Int → Nat → Int} {e : Int} {K : AV → Mem → Prop} : ∀ (d s : Nat) (es : List Int), 0 < d → e < s + d → K (L25 (seqL (RL R) (e - s).toNat s es)) Mem.empty → (treeV R e d s es).sat K
  | 0, _, _, h, _, _ => absurd h (by omega)
  | d + 1, s, es, _, h, hk => by
    refine ⟨fun hc => ?_, fun hc => ?_⟩
    · have hc := of_decide_eq_true hc
      refine treeV_sat d (s + 1) _ (by omega) (by omega) ?_
      have e1 : (e - (s : Int)).toNat = (e - ((s + 1 : Nat) : Int)).toNat + 1 := by omega
      rw [e1] at hk
      exact hk
    · have hc := of_decide_eq_false hc
      have e1 : (e - (s : Int)).toNat = 0 := by omega
      rw [e1] at hk
      exact hk
theorem splitV_sat {e : Int} {go : Nat → Out} {K : AV → Mem → Prop} : ∀ {vs : List Nat}, (∀ v ∈ vs, e = (v : Int) → (go v).sat K) → (∃ v ∈ vs, e = (v : Int)) → (splitV e go vs).sat K
  | [], _, ⟨_, h, _⟩ => by cases h
  | v :: vs, h, ⟨u, hu, hru⟩ => ⟨fun hc => h v (List.mem_cons_self ..) (of_decide_eq_true hc), fun hc => splitV_sat (fun x hx => h x (List.mem_cons_of_mem _ hx)) (by
      rcases List.mem_cons.1 hu with rfl | hu
      · exact absurd hru (of_decide_eq_false hc)
      · exact ⟨u, hu, hru⟩)⟩
def roundsN (es : List Int) (a b : Int) : List Int := tab 25 (nth (roundsL (RL Rn) es a b))
def T_Rounds : List (List Int) → GR := fun l => .p (.l .u64 (roundsN (row0 l) (one l 1) (one l 2)))
theorem roundsN_eq {es : List Int} (h : es.length = 25) (a b : Int) : roundsN es a b = roundsL (RL Rn) es a b := seqL_tab h
def p_Rounds := (65, gsum [.l .u64 25, .w .i64, .w .i64] (fun _ => []) T_Rounds)
theorem ps_Rounds : PSOk (cfg [] []) p_Rounds.1 p_Rounds.2 :=
  (psok_e (C := cRounds Rn) (cokS (by simp) (fun p hp => by simp at hp; subst hp; exact ps_RoundV)) rfl rfl fn_Rounds rfl 33 (fun fs => [L25 (tab 25 (fs 0)), .one (.si .i64 (fs 1 0)), .one (.si .i64 (fs 2 0))]) (fun _ => rfl) fun fs _ _ => by
    refine ⟨_, run_Rounds Rn (fs 0) (fs 1 0) (fs 2 0), splitV_sat (fun v hv hr => ?_) ⟨(clampI (fs 1 0)).toNat, ?_⟩⟩
    · have hv := List.mem_range.1 hv
      have hb := clamp_spec (fs 2 0)
      refine treeV_sat 25 v _ (by omega) (by omega) (sat_same ?_)
      show L25 _ = L25 (roundsN (tab 25 (fs 0)) (fs 1 0) (fs 2 0))
      rw [roundsN_eq (by simp [tab])]
      unfold roundsL
      rw [hr, Int.toNat_natCast]
    · have ha := clamp_spec (fs 1 0)
      exact ⟨List.mem_range.2 (by omega), by omega⟩).cast rfl rfl rfl
theorem fn_F : FnOk Tryd.prog 49 Tryd.f49 := ⟨Tryd.func49, by kernel_rfl⟩
def T_F : List (List Int) → GR := fun l => .p (.l .u64 (roundsN (row0 l) 0 24))
def p_F := (49, gsum [.l .u64 25] (fun _ => []) T_F)
theorem run_F (f : Nat → Int) : callA (cfg [] [p_Rounds]) false 100 Tryd.f49 [L25 (tab 25 f)] (memG gdA) = .done (L25 (roundsN (tab 25 f) 0 24)) Mem.empty := by kernel_rfl
theorem ps_F : PSOk (cfg [] []) p_F.1 p_F.2 :=
  up (psok_e (C := cfg [] [p_Rounds]) (cok (by simp) (by simp [ps_Rounds])) rfl rfl fn_F rfl 100 (fun fs => [L25 (tab 25 (fs 0))]) (fun _ => rfl) fun fs _ _ => ⟨_, run_F (fs 0), sat_same rfl⟩)
end Go.Proofs.YtmiongjabbpmkaaDoor
