/- Package code: a number, encoded at the left. -/
import Derived.Test.YtpaphgdbfbkihaaDoorM4
namespace Go.Proofs.YtpaphgdbfbkihaaDoor
open Go Go.Ax

theorem fn_digits : FnOk Tryd.prog 42 Tryd.f42 := ⟨Tryd.func42, by kernel_rfl⟩
theorem fn_PutBig : FnOk Tryd.prog 60 Tryd.f60 := ⟨Tryd.func60, by kernel_rfl⟩
theorem fn_put : FnOk Tryd.prog 79 Tryd.f79 := ⟨Tryd.func79, by kernel_rfl⟩
theorem fn_TrimLeft : FnOk Tryd.prog 59 Tryd.f59 := ⟨Tryd.func59, by kernel_rfl⟩
theorem fn_trimByte : FnOk Tryd.prog 75 Tryd.f75 := ⟨Tryd.func75, by kernel_rfl⟩
theorem fn_Left : FnOk Tryd.prog 15 Tryd.f15 := ⟨Tryd.func15, by kernel_rfl⟩
noncomputable def fnsLeft : List (Nat × Func) := [(42, Tryd.f42), (60, Tryd.f60), (79, Tryd.f79), (59, Tryd.f59), (75, Tryd.f75)]
noncomputable def cLeft (z : ITrim → Nat) : Cfg := cfgM fnsLeft [] [] [(1, bd_trim, F_trim z)] []
def shrB (x i : Int) : Int := IntKind.u8.wrap (binI .shr .u64 x (binI .mul .i64 8 i))
def put8 (x : Int) : List Int := [7, 6, 5, 4, 3, 2, 1, 0].map (shrB x)
def cut0 : Int := sel (bytesI ⟨#[0]⟩) 0
def leafL (L : List Int) (b : Nat) : R2 := .leaf (.p (.c (.s 5 .u8 L))) [L.length] [b]
def tailZ (b : Nat) : R2 := needR [True, lenP ([1] ++ [0])] (leafL ([1] ++ [0]) b)
def trimI (n : Nat) (L : List Int) : ITrim := ⟨5, L, cut0, 0, n, 0, n⟩
noncomputable def trimR (z : ITrim → Nat) (n : Nat) (L : List Int) (zero : Nat → R2) (fin : Nat → Nat → R2) : R2 :=
  .br (cmpI .eql (n : Int) 0) (zero 0) (needR [(0 : Int) ≤ 0, (0 : Int) < ((1 : Nat) : Int)] (.br (cmpI .lss cut0 128) (needR [(0 : Int) ≤ 0, (0 : Int) < ((1 : Nat) : Int), bd_trim = bd_trim, ok_trim (trimI n L)]
    (.br (cmpI .eql ((n - z (trimI n L) : Nat) : Int) 0) (zero 2) (.br (cmpI .eql ((n - z (trimI n L) : Nat) : Int) 0) (zero 2) (fin (0 + z (trimI n L)) (n - z (trimI n L)))))) (.bad 15)))
theorem run_Left (x : Int) (z : ITrim → Nat) : (callA (cLeft z) true 1000 Tryd.f15 [.one (.si .u64 x)] (memX gdM [.gone, .gone])).view =
    needR [(0 : Int) ≤ 0, 0 ≤ binI .mul .i64 8 ((1 : Nat) : Int), ((1 : Nat) : Int) * binI .mul .i64 8 ((1 : Nat) : Int) ≤ 140737488355328, binI .mul .i64 8 ((1 : Nat) : Int) ≤ 9223372036854775807]
      (appAll (put8 x) 0 [] fun n L => trimR z n L (fun d => tailZ (31 + d)) fun o m => needR [o + m ≤ L.length, True, lenP ([IntKind.u8.wrap (m : Int)] ++ partQ L o m)] (leafL ([IntKind.u8.wrap (m : Int)] ++ partQ L o m) 32)) := by kernel_rfl

theorem shrB_eq {x i : Nat} (hi : i < 8) : shrB (x : Int) (i : Int) = ((x / 256 ^ i % 256 : Nat) : Int) := by
  unfold shrB
  have e : binI .mul .i64 8 (i : Int) = ((8 * i : Nat) : Int) := by
    show IntKind.i64.wrap _ = _
    rw [wrap_ok (ok64 (by omega) (by omega))]; omega
  rw [e]
  have : binI .shr .u64 (x : Int) ((8 * i : Nat) : Int) = ((x / 2 ^ (8 * i) : Nat) : Int) := by
    show (x : Int).fdiv (2 ^ (min ((8 * i : Nat) : Int).toNat IntKind.u64.bits)) = _
    simp only [Int.toNat_natCast, IntKind.bits]
    rw [Nat.min_eq_left (by omega), show ((2 : Int) ^ (8 * i)) = ((2 ^ (8 * i) : Nat) : Int) by simp, Int.fdiv_eq_ediv_of_nonneg _ (Int.natCast_nonneg _), ← Int.natCast_ediv]
  rw [this, wrap8, Nat.pow_mul, show (2 : Nat) ^ 8 = 256 from rfl]
  omega
theorem put8_eq (x : Nat) : put8 (x : Int) = bytesN x 8 := by
  show [shrB x ((7 : Nat) : Int), shrB x ((6 : Nat) : Int), shrB x ((5 : Nat) : Int), shrB x ((4 : Nat) : Int), shrB x ((3 : Nat) : Int), shrB x ((2 : Nat) : Int), shrB x ((1 : Nat) : Int), shrB x ((0 : Nat) : Int)] = _
  rw [shrB_eq (by omega), shrB_eq (by omega), shrB_eq (by omega), shrB_eq (by omega), shrB_eq (by omega), shrB_eq (by omega), shrB_eq (by omega), shrB_eq (by omega)]
  rfl
theorem cut0_eq : cut0 = 0 := by kernel_rfl
theorem bytesN_ok {x : Nat} : ∀ {n : Nat}, ∀ y ∈ bytesN x n, okI .u8 y
  | n + 1, y, hy => by
    rcases List.mem_cons.1 hy with rfl | hy
    · constructor <;> simp [IntKind.min, IntKind.max, IntKind.bits, IntKind.signed] <;> omega
    · exact bytesN_ok y hy
theorem digN_len {x : Nat} : (digN x).length = nbN x := bytesN_len
theorem trimR_sat {K : RS → List Nat → List Nat → Prop} {x : Nat} (hx : x < 18446744073709551616) {zero : Nat → R2} {fin : Nat → Nat → R2} (h0 : x = 0 → ∀ d, (zero d).sat K)
    (h1 : ∀ o, partQ (put8 (x : Int)) o (nbN x) = digN x → o + nbN x ≤ (put8 (x : Int)).length → (fin o (nbN x)).sat K) : (trimR z_trim 8 (put8 (x : Int)) zero fin).sat K := by
  have hl : (put8 (x : Int)).length = 8 := rfl
  have hz : z_trim (trimI 8 (put8 (x : Int))) = lead 0 (bytesN x 8) := by
    show lead cut0 ((put8 (x : Int)).drop 0) = _
    rw [cut0_eq, put8_eq]; rfl
  have hd := dig_trim hx
  have hle := lead_le (c := 0) (L := bytesN x 8)
  rw [bytesN_len] at hle
  unfold trimR
  rw [hz]
  refine ⟨fun h => absurd h (by decide), fun _ => needR_sat ⟨by omega, by omega, trivial⟩ ⟨fun _ => needR_sat ⟨by omega, by omega, rfl, ⟨rfl, rfl, rfl⟩, trivial⟩ ⟨fun he => ?_, fun he => ⟨fun he' => absurd (he'.symm.trans he) (by decide), fun _ => ?_⟩⟩, fun h => ?_⟩⟩
  · rw [eql_d] at he
    have he := of_decide_eq_true he
    have hlen := congrArg List.length hd
    unfold dropZ at hlen
    rw [List.length_drop, bytesN_len] at hlen
    split at hlen
    · rename_i hx0; exact h0 hx0 2
    · rw [digN_len] at hlen
      have := nbN_bd hx
      omega
  · rw [eql_d] at he
    have he := of_decide_eq_false he
    have hlen := congrArg List.length hd
    unfold dropZ at hlen hd
    rw [List.length_drop, bytesN_len] at hlen
    split at hlen
    · simp at hlen; omega
    · rename_i hx0
      rw [if_neg hx0] at hd
      rw [digN_len] at hlen
      rw [hlen, Nat.zero_add]
      refine h1 _ ?_ (by rw [hl]; omega)
      rw [partQ_eq, put8_eq, hd, List.take_of_length_le (by rw [digN_len]; omega)]
  · rw [cut0_eq] at h
    exact absurd h (by decide)
/-- A number, encoded at the left. -/
def leftN (x : Nat) : List Int := (nbN x : Int) :: digN x
theorem leftN_len {x : Nat} : (leftN x).length = nbN x + 1 := by simp [leftN, digN_len]
theorem wrap_nb {x : Nat} (hx : x < 18446744073709551616) : IntKind.u8.wrap ((nbN x : Nat) : Int) = (nbN x : Int) := by
  have := nbN_bd hx
  rw [wrap8]; omega
def T_Left : List (List Int) → List Int := fun l => leftN (one l 0).toNat
def q_Left := (15, fsum [.one (.w .u64)] (fun _ => []) fun l => .one (.p (.c (.s 5 .u8 (T_Left l)))))
theorem leafL_sat {L M : List Int} {b : Nat} (h : L = M) : (leafL L b).sat (RS.met (.p (.c (.s 5 .u8 M)))) := by
  subst h
  exact ⟨rfl, ⟨rfl, trivial⟩, by simp⟩
theorem cokLeft : COk (cLeft z_trim) := cokM (memc fn_digits (memc fn_PutBig (memc fn_put (memc fn_TrimLeft (mem1 fn_trimByte))))) mem0 mem0 (mem1 lq_trim)
set_option maxRecDepth 100000 in
theorem qs_Left : FOk cM q_Left.1 q_Left.2 :=
  upM (fok_run (C := cLeft z_trim) (shs := [.one (.w .u64)]) (T := fun l => .one (.p (.c (.s 5 .u8 (T_Left l))))) (conds := fun _ => []) cokLeft rfl rfl fn_Left (by kernel_rfl) 1000 fun Ms hok _ => ⟨_, rfl, view_sat (by
    obtain ⟨⟨hl, hk⟩, _⟩ := hok
    have hk : okI .u64 ((Ms 0).getD 0 0) := by
      match hq : Ms 0, hl with
      | [y], _ => exact hk y (by rw [hq]; simp)
    refine Eq.mpr (congrArg (R2.sat _) (run_Left ((Ms 0).getD 0 0) z_trim)) ?_
    show R2.sat (RS.met (.p (.c (.s 5 .u8 (leftN ((Ms 0).getD 0 0).toNat))))) _
    obtain ⟨h1, h2⟩ := of_oku hk
    generalize (Ms 0).getD 0 0 = y at *
    obtain ⟨x, rfl⟩ := Int.eq_ofNat_of_zero_le h1
    have hx : x < 18446744073709551616 := by omega
    rw [Int.toNat_natCast]
    refine needR_sat ⟨by decide, by decide, by decide, by decide, trivial⟩ (appAll_sat (put8 (x : Int)) 0 [] rfl (by simp [put8]) ?_)
    rw [List.nil_append]
    refine trimR_sat hx (fun h0 d => ?_) (fun o ho hlo => ?_)
    · subst h0
      exact needR_sat ⟨trivial, ⟨by decide, by decide⟩, trivial⟩ (leafL_sat rfl)
    · have hb := nbN_bd hx
      rw [ho, wrap_nb hx]
      exact needR_sat ⟨hlo, trivial, by unfold lenP; simp only [List.length_append, List.length_cons, List.length_nil, digN_len]; omega, trivial⟩ (leafL_sat rfl))⟩)
end Go.Proofs.YtpaphgdbfbkihaaDoor
