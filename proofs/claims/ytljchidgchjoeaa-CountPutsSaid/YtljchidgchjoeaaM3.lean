/- Layer 03's reference: a word's bytes, the great end first, up to eight. -/
import Derived.Test.YtljchidgchjoeaaM2
namespace Go.Proofs.Ytljchidgchjoeaa
open Go Go.Ax
set_option linter.unusedSectionVars false
variable [JW]

theorem fn_Big : FnOk Try.prog 21 Try.f21 := ⟨Try.func21, by kernel_rfl⟩
theorem fn_Little : FnOk Try.prog 43 Try.f43 := ⟨Try.func43, by kernel_rfl⟩
def littleI (x : Int) : Nat → List Int
  | 0 => []
  | n + 1 => IntKind.u8.wrap (binI .rem .u64 x 256) :: littleI (binI .quo .u64 x 256) n
def downs : Nat → List Int
  | 0 => []
  | n + 1 => (n : Int) :: downs n
def bigR (x s : Int) : List Nat → R2
  | [] => .bad 30
  | k :: ks => .br (decide (s = (k : Int))) (appAll0 (littleI x k) fun n L => pickAll0 L n (downs k) fun m M => .leaf (.p (.c (.s 5 .u8 M))) [m] [6 * k + 2]) (bigR x s ks)
noncomputable def cBig : Cfg := cfgM [(43, Try.f43)] [] [] [] [(0, 1, [1, 2, 3, 4, 5, 6, 7, 8])]
theorem run_Big (x s : Int) : (callA cBig true 1000 Try.f21 [.one (.si .u64 x), .one (.si .i64 s)] (memX gdM [.gone, .gone, .gone, .gone])).view = bigR x s [1, 2, 3, 4, 5, 6, 7, 8] := by kernel_rfl
theorem littleI_len {x : Int} : ∀ {n : Nat}, (littleI x n).length = n
  | 0 => rfl
  | n + 1 => by simp [littleI, littleI_len (n := n)]
theorem downs_len : ∀ {n : Nat}, (downs n).length = n
  | 0 => rfl
  | n + 1 => by simp [downs, downs_len (n := n)]
theorem downs_mem : ∀ {n : Nat} {k : Int}, k ∈ downs n → 0 ≤ k ∧ k < (n : Int)
  | n + 1, k, h => by
    simp only [downs, List.mem_cons] at h
    rcases h with rfl | h
    · omega
    · have := downs_mem h; omega
/-- The last bytes of a word, so many, the great end first. -/
def bigN (x : Int) (n : Nat) : List Int := (downs n).map fun k => sel (littleI x n) (((0 : Nat) : Int) + k)
theorem bigN_len {x : Int} {n : Nat} : (bigN x n).length = n := by simp [bigN, downs_len]
def T_Big : List (List Int) → List Int := fun l => bigN (one l 0) (one l 1).toNat
def q_Big := (21, fsum [.one (.w .u64), .one (.w .i64)] (fun l => [1 ≤ one l 1 ∧ one l 1 ≤ 8]) fun l => .one (.p (.c (.s 5 .u8 (T_Big l)))))
theorem bigR_sat {x s : Int} : ∀ {ks : List Nat}, (∃ k ∈ ks, s = (k : Int)) → (∀ k ∈ ks, k ≤ 8) → (bigR x s ks).sat (RS.met (.p (.c (.s 5 .u8 (bigN x s.toNat)))))
  | [], h, _ => by obtain ⟨_, h, _⟩ := h; cases h
  | k :: ks, h, h8 => by
    refine ⟨fun he => ?_, fun he => bigR_sat ?_ fun k hk => h8 k (List.mem_cons_of_mem _ hk)⟩
    · obtain rfl := of_decide_eq_true he
      have := h8 k (List.mem_cons_self ..)
      refine appAll0_sat _ (by rw [littleI_len]; omega) (pickAll0_sat _ (by rw [downs_len]; omega) (fun j hj => ?_) ⟨rfl, ⟨rfl, trivial⟩, by simp⟩)
      rw [littleI_len]
      exact downs_mem hj
    · obtain ⟨j, hj, e⟩ := h
      rcases List.mem_cons.1 hj with rfl | hj
      · exact absurd e (of_decide_eq_false he)
      · exact ⟨j, hj, e⟩
set_option maxRecDepth 100000 in
theorem qs_Big : FOk cM q_Big.1 q_Big.2 :=
  upM (fok_run (C := cBig) (shs := [.one (.w .u64), .one (.w .i64)]) (T := fun l => .one (.p (.c (.s 5 .u8 (T_Big l))))) (conds := fun l => [1 ≤ one l 1 ∧ one l 1 ≤ 8]) (cokM (mem1 fn_Little) mem0 mem0 mem0) rfl rfl fn_Big (by kernel_rfl) 1000 fun Ms _ hc => ⟨_, rfl, view_sat (by
    have hc : 1 ≤ (Ms 1).getD 0 0 ∧ (Ms 1).getD 0 0 ≤ 8 := hc.1
    refine Eq.mpr (congrArg (R2.sat _) (run_Big ((Ms 0).getD 0 0) ((Ms 1).getD 0 0))) ?_
    show R2.sat (RS.met (.p (.c (.s 5 .u8 (bigN ((Ms 0).getD 0 0) ((Ms 1).getD 0 0).toNat))))) _
    refine bigR_sat ⟨((Ms 1).getD 0 0).toNat, ?_, by omega⟩ (by decide)
    have h1 : 1 ≤ ((Ms 1).getD 0 0).toNat := by omega
    have h2 : ((Ms 1).getD 0 0).toNat ≤ 8 := by omega
    simp only [List.mem_cons, List.not_mem_nil, or_false]
    omega)⟩)

/-! ## Which bytes these are -/

theorem remN {a : Nat} : binI .rem .u64 (a : Int) 256 = ((a % 256 : Nat) : Int) := by
  show (a : Int).tmod 256 = _
  rw [Int.tmod_eq_emod_of_nonneg (by omega)]
  omega
theorem quoN {a b : Nat} (h : a < 18446744073709551616) : binI .quo .u64 (a : Int) (b : Int) = ((a / b : Nat) : Int) := by
  show IntKind.u64.wrap ((a : Int).tdiv b) = _
  rw [Int.tdiv_eq_ediv_of_nonneg (by omega), ← Int.natCast_ediv]
  have := Nat.div_le_self a b
  generalize a / b = q at *
  exact wrap_ok (oku (by omega) (by omega))
theorem littleI_eq : ∀ {n x : Nat}, x < 18446744073709551616 → littleI (x : Int) n = (List.range n).map fun i => ((x / 256 ^ i % 256 : Nat) : Int)
  | 0, _, _ => rfl
  | n + 1, x, h => by
    have hq : binI .quo .u64 (x : Int) ((256 : Nat) : Int) = ((x / 256 : Nat) : Int) := quoN h
    have hq : binI .quo .u64 (x : Int) 256 = ((x / 256 : Nat) : Int) := hq
    rw [List.range_succ_eq_map, List.map_cons, List.map_map]
    show IntKind.u8.wrap (binI .rem .u64 (x : Int) 256) :: littleI (binI .quo .u64 (x : Int) 256) n = _
    rw [hq, littleI_eq (n := n) (x := x / 256) (by omega), remN, wrap8]
    congr 1
    · simp
    · refine List.map_congr_left fun i _ => ?_
      simp only [Function.comp, Nat.pow_succ]
      rw [Nat.div_div_eq_div_mul, Nat.mul_comm 256]
/-- The same, by division. -/
def bytesN (x : Nat) : Nat → List Int
  | 0 => []
  | n + 1 => ((x / 256 ^ n % 256 : Nat) : Int) :: bytesN x n
theorem bigN_eq {x n : Nat} (h : x < 18446744073709551616) : bigN (x : Int) n = bytesN x n := by
  unfold bigN
  rw [littleI_eq h]
  have key : ∀ m, m ≤ n → (downs m).map (fun k => sel ((List.range n).map fun i => ((x / 256 ^ i % 256 : Nat) : Int)) (((0 : Nat) : Int) + k)) = bytesN x m := by
    intro m
    induction m with
    | zero => intro _; rfl
    | succ m ih =>
      intro hm
      rw [downs, List.map_cons, ih (by omega), bytesN, sel_at (by simp; omega)]
      simp
  exact key n (Nat.le_refl _)
end Go.Proofs.Ytljchidgchjoeaa
