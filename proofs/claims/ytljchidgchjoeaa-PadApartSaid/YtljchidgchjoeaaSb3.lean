/- Layer 04: the document's sums and differences, bit by bit; the law CountAdds. -/
import Derived.Test.YtljchidgchjoeaaSb2
import Derived.Test.YtljchidgchjoeaaBt
namespace Go.Proofs.Ytljchidgchjoeaa
open Go Go.Ax

def nth (es : List Int) (i : Nat) : Int := es.getD i 0
def row0 (l : List (List Int)) : List Int := l.getD 0 []
theorem nth_tab {n i : Nat} {f : Nat → Int} (h : i < n) : nth (tab n f) i = f i := tab_get h

/-! ## Bits of a count -/

/-- A bit of a number. -/
def bN (V i : Nat) : Int := ((V / 2 ^ i % 2 : Nat) : Int)
def natC (h l : Int) : Nat := h.toNat * 18446744073709551616 + l.toNat
def bitAt (x : Int) (i : Nat) : Int := IntKind.i64.wrap (binI .rem .u64 (halve i x) 2)
def bitsRawA (h l : Int) : AV := .agg ((tab 128 fun i => match Nat.blt i 64 with | true => bitAt l i | false => bitAt h (i - 64)).map (.si .i64) ++ List.replicate 8 (.li .i64 0))
theorem fn_bits : FnOk Try.prog 37 Try.f37 := ⟨Try.func37, by kernel_rfl⟩
theorem run_bits (h l : Int) : callA (cfgB [] [] []) false 1000 Try.f37 [C2 h l] (memG gdB) = .done (bitsRawA h l) Mem.empty := by kernel_rfl
def pBitsV (T : Int → Int → Nat → Int) := (37, gsum [.l .u64 2] (fun _ => []) fun l => .p (.l .i64 (tab 136 (T (at2 l 0 0) (at2 l 0 1)))))

theorem bitAt_eq {x : Int} (hx : okI .u64 x) (i : Nat) : bitAt x i = bN x.toNat i := by
  unfold bitAt bN
  rw [halve_nb hx, rem2, BitVec.toNat_ushiftRight, Nat.shiftRight_eq_div_pow]
  have e : (bv x).toNat = x.toNat := by have := nb_bv hx; unfold nb at this; omega
  rw [e]
  exact wrap_ok (ok64' (by omega) (by omega))
theorem bN_low {h l : Int} {i : Nat} (hi : i < 64) : bN (natC h l) i = bN l.toNat i := by
  unfold bN natC
  have e : h.toNat * 18446744073709551616 + l.toNat = 2 ^ i * (2 * (h.toNat * 2 ^ (63 - i))) + l.toNat := by
    have : (18446744073709551616 : Nat) = 2 ^ i * (2 * 2 ^ (63 - i)) := by rw [← Nat.pow_succ', ← Nat.pow_add, show i + (63 - i + 1) = 64 by omega]
    rw [this]; ac_rfl
  rw [e, Nat.mul_add_div (Nat.two_pow_pos i)]
  congr 1
  omega
theorem bN_high {h l : Int} (hl : 0 ≤ l ∧ l ≤ 18446744073709551615) (i : Nat) : bN (natC h l) (i + 64) = bN h.toNat i := by
  unfold bN natC
  rw [show i + 64 = 64 + i by omega, Nat.pow_add, ← Nat.div_div_eq_div_mul]
  congr 3
  have : (2 : Nat) ^ 64 = 18446744073709551616 := by decide
  omega
theorem bN_none {V : Nat} {i : Nat} (h : V < 2 ^ i) : bN V i = 0 := by unfold bN; rw [Nat.div_eq_of_lt h]; rfl
theorem natC_lt {h l : Int} (h1 : 0 ≤ h ∧ h ≤ 18446744073709551615) (h2 : 0 ≤ l ∧ l ≤ 18446744073709551615) : natC h l < 2 ^ 128 := by
  have : (2 : Nat) ^ 128 = 340282366920938463463374607431768211456 := by decide
  unfold natC; omega
def bitsT (h l : Int) (i : Nat) : Int := bN (natC h l) i
theorem ps_bits : PSOk (cfgB [] [] []) (pBitsV bitsT).1 (pBitsV bitsT).2 :=
  psok_e (C := cfgB [] [] []) (cokB (by simp) (by simp) (by simp)) rfl rfl fn_bits rfl 1000 (fun fs => [C2 (fs 0 0) (fs 0 1)]) (fun _ => rfl) fun fs h _ => by
    refine ⟨_, run_bits (fs 0 0) (fs 0 1), sat_sym ?_ ?_⟩
    · obtain ⟨h1, h2⟩ := two_ok h.1
      show AV.agg (((tab 128 fun i => match Nat.blt i 64 with | true => bitAt (fs 0 1) i | false => bitAt (fs 0 0) (i - 64)).map (SV.si .i64) ++ List.replicate 8 (SV.li .i64 0)).map SV.sym) = AV.agg ((tab 136 (bitsT (fs 0 0) (fs 0 1))).map (.si .i64))
      congr 1
      have e : tab 136 (bitsT (fs 0 0) (fs 0 1)) = (tab 128 (bitsT (fs 0 0) (fs 0 1))) ++ List.replicate 8 0 := by
        unfold tab
        rw [show List.range 136 = List.range 128 ++ (List.range 8).map (128 + ·) from List.range_add (n := 128) (m := 8), List.map_append]
        congr 1
        rw [List.map_map, List.eq_replicate_iff]
        refine ⟨by simp, fun b hb => ?_⟩
        obtain ⟨j, hj, rfl⟩ := List.mem_map.1 hb
        exact bN_none (Nat.lt_of_lt_of_le (natC_lt h1 h2) (Nat.pow_le_pow_right (by decide) (Nat.le_add_right 128 j)))
      rw [e, List.map_append, List.map_append]
      congr 1
      · rw [List.map_map]
        unfold tab
        rw [List.map_map, List.map_map]
        refine List.map_congr_left fun i hi => ?_
        have hi := List.mem_range.1 hi
        show SV.si .i64 _ = SV.si .i64 _
        congr 1
        dsimp only
        by_cases hc : i < 64
        · rw [show Nat.blt i 64 = true from Nat.ble_eq_true_of_le hc]
          show bitAt (fs 0 1) i = _
          rw [bitAt_eq (oku h2.1 h2.2)]
          exact (bN_low hc).symm
        · rw [show Nat.blt i 64 = false from Bool.eq_false_iff.2 fun e => hc (Nat.le_of_ble_eq_true e)]
          show bitAt (fs 0 0) (i - 64) = _
          rw [bitAt_eq (oku h1.1 h1.2)]
          have := bN_high (h := fs 0 0) h2 (i - 64)
          rw [show i - 64 + 64 = i by omega] at this
          exact this.symm
    · show (((tab 128 fun i => match Nat.blt i 64 with | true => bitAt (fs 0 1) i | false => bitAt (fs 0 0) (i - 64)).map (SV.si .i64)) ++ List.replicate 8 (SV.li .i64 0)).all SV.flat = true
      rw [List.all_append, mk_flat_agg]
      rfl

/-! ## A count out of its bits -/

def horn (b : List Int) (o : Nat) : Nat → Int
  | 0 => 0
  | k + 1 => binI .add .u64 (binI .mul .u64 2 (horn b o k)) (IntKind.u64.wrap (nth b (63 - k + o)))
def anyOne (b : List Int) : List Nat → Bool
  | [] => false
  | i :: is => cmpI .eql (nth b i) 1 || anyOne b is
def tops : List Nat := [128, 129, 130, 131, 132, 133, 134, 135]
def ofTree (b : List Int) : List Nat → Out
  | [] => .done (.tup [.agg [.si .u64 (horn b 64 64), .si .u64 (horn b 0 64)], .one (.lb true)]) Mem.empty
  | i :: is => .br (cmpI .eql (nth b i) 1) (.done (.tup [.agg [.li .u64 0, .li .u64 0], .one (.lb false)]) Mem.empty) (ofTree b is)
theorem fn_of : FnOk Try.prog 38 Try.f38 := ⟨Try.func38, by kernel_rfl⟩
theorem run_of (f : Nat → Int) : callA (cfgB [] [] []) false 1000 Try.f38 [.agg ((tab 136 f).map (.si .i64))] (memG gdB) = ofTree (tab 136 f) tops := by kernel_rfl

end Go.Proofs.Ytljchidgchjoeaa
