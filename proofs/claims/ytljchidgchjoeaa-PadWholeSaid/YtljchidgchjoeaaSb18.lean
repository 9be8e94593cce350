/- Layer 10: the laws PadWhole, PadApart. -/
import Derived.Test.YtljchidgchjoeaaSb17
namespace Go.Proofs.Ytljchidgchjoeaa
open Go Go.Ax

theorem fn_PadWhole : FnOk Try.prog 8 Try.f8 := ⟨Try.func8, by kernel_rfl⟩
def wholeA (F c : Bool) (M : Int) (T : List Int) (s : Int) : Out :=
  .br (!F) yesO (.br c (.br false (.br (cmpI .eql (binI .rem .i64 (binI .add .i64 M 0) s) 0) noO noO) noO)
    (.br true (.br (cmpI .eql (binI .rem .i64 (binI .add .i64 M (T.length : Int)) s) 0) (.br (cmpI .gtr (T.length : Int) (binI .quo .i64 s 8)) (.br (cmpI .leq (T.length : Int) (binI .add .i64 s (binI .quo .i64 s 8)))
      (.need ((0 : Int) ≤ 0) (.need ((0 : Int) < T.length) (.need (0 ≤ ((0 : Nat) : Int) + 0) (.need (((0 : Nat) : Int) + 0 < T.length) (sbO (cmpI .eql (sel T (((0 : Nat) : Int) + 0)) 128)))))) noO) noO) noO) noO))
theorem run_PadWhole (F : List (List Int) → Bool) (M : List (List Int) → Int) (c : List (List Int) → Bool) (T : List (List Int) → List Int) (h l : Int) (g : Bool) :
    callA (cfgX [] [p_wakes10, pFitsV F, pModV M] [qPOfV c T] [] []) false 1000 Try.f8 [C2 h l, .one (.sb g)] (memG gdB) =
    .br g (wholeA (F [[h, l], [128]]) (c [[h, l], [128]]) (M [[h, l], [128]]) (T [[h, l], [128]]) 128) (wholeA (F [[h, l], [64]]) (c [[h, l], [64]]) (M [[h, l], [64]]) (T [[h, l], [64]]) 64) := by kernel_rfl
def modT (l : List (List Int)) : Int := modV (valC (at2 l 0 0) (at2 l 0 1)) (one l 1)
def fitsT (l : List (List Int)) : Bool := fits (valC (at2 l 0 0) (at2 l 0 1)) (one l 1)
def isYes (v : AV) : Prop := v = .one (.sb true) ∨ v = .one (.lb true)
theorem wholeA_sat {V s : Int} (hs : s = 64 ∨ s = 128) : (wholeA (fits V s) (decide (padN V s = 0)) (modV V s) (padL V s) s).sat fun v _ => v = .one (.sb true) ∨ v = .one (.lb true) := by
  refine ⟨fun _ => .inr rfl, fun hf => ?_⟩
  have hf : fits V s = true := by
    cases hq : fits V s with
    | true => rfl
    | false => rw [hq] at hf; cases hf
  have h0 : padN V s ≠ 0 := fun h => padN_zero h ⟨hs, hf⟩
  obtain ⟨_, _, h3, h4, h5⟩ := padN_lt h0
  have hlen := padL_len h0
  rw [decide_eq_false h0]
  have e0 : modV V s = V % s := modV_in (by rcases hs with rfl | rfl <;> omega) (by rcases hs with rfl | rfl <;> omega)
  have a1 : 0 ≤ V % s ∧ V % s < 128 := by rcases hs with rfl | rfl <;> omega
  have hb : 0 ≤ padN V s ∧ padN V s ≤ 200 := by rcases hs with rfl | rfl <;> omega
  have e1 : binI .add .i64 (V % s) (padN V s) = V % s + padN V s := wrap_ok (ok64 (by omega) (by omega))
  have e2 : binI .rem .i64 (V % s + padN V s) s = (V % s + padN V s) % s := Int.tmod_eq_emod_of_nonneg (by omega)
  have e3 : (V % s + padN V s) % s = 0 := by
    rw [h3]; unfold padEnd
    rcases hs with rfl | rfl <;> omega
  have e4 : binI .quo .i64 s 8 = s / 8 := by rcases hs with rfl | rfl <;> decide
  have e5 : binI .add .i64 s (s / 8) = s + s / 8 := by rcases hs with rfl | rfl <;> decide
  rw [hlen, e0, e1, e2, e3, e4, e5]
  refine ⟨fun h => (by cases h), fun _ => ⟨fun _ => ⟨fun _ => ⟨fun _ => ⟨fun _ => ⟨by omega, ?_, by omega, ?_, .inl rfl⟩, fun h => ?_⟩, fun h => ?_⟩, fun h => (by cases h)⟩, fun h => (by cases h)⟩⟩
  · omega
  · omega
  · have h : cmpI .leq (padN V s) (s + s / 8) = false := h
    have := of_decide_eq_false h
    omega
  · have h : cmpI .gtr (padN V s) (s / 8) = false := h
    have := of_decide_eq_false h
    omega
theorem law_PadWhole {W : World} {base : Nat} {args : Array Value} (hsz : Try.f8.params.toList.length = args.toList.length)
    (hval : ∀ (j : Nat) t v, Try.f8.params[j]? = some t → args[j]? = some v → Value.okWide Try.prog W .any base t v) :
    Calls Try.prog 8 args W fun e w' => e = .returned (.bool true) ∧ RowKit.Below W.heap.size W w' :=
  law_e (C := cfgX [] [p_wakes10, pFitsV fitsT, pModV modT] [qPOfV isNo padT] [] []) (cokX (by simp) (memc ps_wakes10 (memc ps_RFits (mem1 ps_RMod))) (mem1 qs_POf) (by simp)) rfl rfl fn_PadWhole (shs := [.l .u64 2, .b]) (by kernel_rfl) 1000
    (fun fs => [C2 (fs 0 0) (fs 0 1), .one (.sb (fs 1 0 != 0))]) (fun _ => rfl) (fun fs _ => ⟨_, run_PadWhole fitsT modT isNo padT (fs 0 0) (fs 0 1) (fs 1 0 != 0), fun _ => wholeA_sat (.inr rfl), fun _ => wholeA_sat (.inl rfl)⟩) hsz hval (fun p hp => by cases hp)

/-! ## PadApart -/

theorem fn_PadApart : FnOk Try.prog 9 Try.f9 := ⟨Try.func9, by kernel_rfl⟩
def apart (c d : Bool) (P Q : List Int) (h l k j : Int) : Out :=
  .br c (.br d (.br true yesO (.br true yesO (sbO (decide (([] : List Int) = []) == (h == k && (l == j && true)))))) (.br true yesO (.br false yesO (.need (0 + Q.length ≤ Q.length) (sbO (decide ([] = partQ Q 0 Q.length) == (h == k && (l == j && true))))))))
    (.br d (.br false yesO (.br true yesO (.need (0 + P.length ≤ P.length) (sbO (decide (partQ P 0 P.length = []) == (h == k && (l == j && true))))))) (.br false yesO (.br false yesO (.need (0 + P.length ≤ P.length) (.need (0 + Q.length ≤ Q.length) (sbO (decide (partQ P 0 P.length = partQ Q 0 Q.length) == (h == k && (l == j && true)))))))))
theorem run_PadApart (c : List (List Int) → Bool) (T : List (List Int) → List Int) (h l k j : Int) (g : Bool) :
    callA (cfgX [] [p_wakes10] [qPOfV c T, q_Same] [] []) false 1000 Try.f9 [C2 h l, C2 k j, .one (.sb g)] (memG gdB) =
    .br g (apart (c [[h, l], [128]]) (c [[k, j], [128]]) (T [[h, l], [128]]) (T [[k, j], [128]]) h l k j) (apart (c [[h, l], [64]]) (c [[k, j], [64]]) (T [[h, l], [64]]) (T [[k, j], [64]]) h l k j) := by kernel_rfl
theorem bytes_inj {a b : Nat} (ha : a < 18446744073709551616) (hb : b < 18446744073709551616) (h : ∀ i, i < 8 → a / 256 ^ i % 256 = b / 256 ^ i % 256) : a = b := by
  have h0 := h 0 (by omega); have h1 := h 1 (by omega); have h2 := h 2 (by omega); have h3 := h 3 (by omega)
  have h4 := h 4 (by omega); have h5 := h 5 (by omega); have h6 := h 6 (by omega); have h7 := h 7 (by omega)
  simp only [Nat.pow_zero, Nat.div_one, Nat.reducePow] at h0 h1 h2 h3 h4 h5 h6 h7
  have q7 : a / 72057594037927936 = b / 72057594037927936 := by omega
  have q6 : a / 281474976710656 = b / 281474976710656 := by omega
  have q5 : a / 1099511627776 = b / 1099511627776 := by omega
  have q4 : a / 4294967296 = b / 4294967296 := by omega
  have q3 : a / 16777216 = b / 16777216 := by omega
  have q2 : a / 65536 = b / 65536 := by omega
  have q1 : a / 256 = b / 256 := by omega
  omega
theorem bigI_inj {x y : Int} (hx : okI .u64 x) (hy : okI .u64 y) (h : bigI x = bigI y) : x = y := by
  rw [bigI_eq hx, bigI_eq hy] at h
  obtain ⟨h1, h2⟩ := of_oku hx
  obtain ⟨h3, h4⟩ := of_oku hy
  obtain ⟨a, rfl⟩ := Int.eq_ofNat_of_zero_le h1
  obtain ⟨b, rfl⟩ := Int.eq_ofNat_of_zero_le h3
  simp only [List.cons.injEq, and_true] at h
  obtain ⟨b7, b6, b5, b4, b3, b2, b1, b0⟩ := h
  have := bytes_inj (a := a) (b := b) (by omega) (by omega) fun i hi => by
    have key : ∀ j, j < 8 → byteAt (a : Int) j = byteAt (b : Int) j → a / 256 ^ j % 256 = b / 256 ^ j % 256 := fun j hj h => by
      rw [byteAt_eq hj, byteAt_eq hj] at h
      exact Int.ofNat.inj h
    refine key i hi ?_
    match i, hi with
    | 0, _ => exact b0
    | 1, _ => exact b1
    | 2, _ => exact b2
    | 3, _ => exact b3
    | 4, _ => exact b4
    | 5, _ => exact b5
    | 6, _ => exact b6
    | 7, _ => exact b7
  rw [this]
theorem padL_inj {V W s : Int} (hV : padN V s ≠ 0) (hW : padN W s ≠ 0) (h : padL V s = padL W s) : V = W := by
  obtain ⟨hs, hf, _⟩ := padN_lt hV
  obtain ⟨_, hg, _⟩ := padN_lt hW
  have hn : padN V s = padN W s := by rw [← padL_len hV, ← padL_len hW, h]
  unfold padL at h
  rw [hn] at h
  have h := List.append_cancel_left (List.cons.inj h).2
  have f1 := fits_fit hf
  have f2 := fits_fit hg
  obtain ⟨o1, o2⟩ := bigs f1
  obtain ⟨o3, o4⟩ := bigs f2
  rcases hs with rfl | rfl
  · rw [tail64 f1, tail64 f2] at h
    have e := bigI_inj o2 o4 h
    have k1 : ∀ {X : Int}, fits X 64 = true → 0 ≤ 8 * X ∧ 8 * X < 18446744073709551616 := fun {X} hX => by
      unfold fits at hX
      simp only [Bool.and_eq_true, Bool.or_eq_true, decide_eq_true_eq] at hX
      have := hX.1
      unfold fit at this
      rw [Bool.and_eq_true] at this
      have h1 := of_decide_eq_true this.1
      rcases hX.2 with h | h <;> omega
    have := k1 hf
    have := k1 hg
    omega
  · rw [tail128 f1, tail128 f2] at h
    obtain ⟨e1, e2⟩ := List.append_inj h (by rw [bigI_len, bigI_len])
    have e1 := bigI_inj o1 o3 e1
    have e2 := bigI_inj o2 o4 e2
    omega
theorem apart_sat {h l k j s : Int} (hh : okI .u64 h) (hl : okI .u64 l) (hk : okI .u64 k) (hj : okI .u64 j) : (apart (decide (padN (valC h l) s = 0)) (decide (padN (valC k j) s = 0)) (padL (valC h l) s) (padL (valC k j) s) h l k j).sat fun v _ => v = .one (.sb true) ∨ v = .one (.lb true) := by
  have y : yesO.sat fun v _ => v = .one (.sb true) ∨ v = .one (.lb true) := .inr rfl
  refine ⟨fun hc => ⟨fun hd => ⟨fun _ => y, fun h => (by cases h)⟩, fun hd => ⟨fun _ => y, fun h => (by cases h)⟩⟩, fun hc => ⟨fun hd => ⟨fun h => (by cases h), fun _ => ⟨fun _ => y, fun h => (by cases h)⟩⟩, fun hd => ⟨fun h => (by cases h), fun _ => ⟨fun h => (by cases h), fun _ => ⟨by omega, by omega, .inl ?_⟩⟩⟩⟩⟩
  have hc := of_decide_eq_false hc
  have hd := of_decide_eq_false hd
  rw [partQ_all, partQ_all]
  have : (decide (padL (valC h l) s = padL (valC k j) s) == (h == k && (l == j && true))) = true := by
    by_cases he : h = k ∧ l = j
    · obtain ⟨rfl, rfl⟩ := he
      simp
    · have hne : padL (valC h l) s ≠ padL (valC k j) s := fun e => he (by
        have hv := padL_inj hc hd e
        unfold valC at hv
        have := of_oku hh; have := of_oku hl; have := of_oku hk; have := of_oku hj
        omega)
      rw [decide_eq_false hne]
      by_cases h1 : h = k
      · simp [show ¬ l = j from fun e => he ⟨h1, e⟩]
      · simp [h1]
  rw [this]
theorem law_PadApart {W : World} {base : Nat} {args : Array Value} (hsz : Try.f9.params.toList.length = args.toList.length)
    (hval : ∀ (j : Nat) t v, Try.f9.params[j]? = some t → args[j]? = some v → Value.okWide Try.prog W .any base t v) :
    Calls Try.prog 9 args W fun e w' => e = .returned (.bool true) ∧ RowKit.Below W.heap.size W w' :=
  law_e (C := cfgX [] [p_wakes10] [qPOfV isNo padT, q_Same] [] []) (cokX (by simp) (mem1 ps_wakes10) (memc qs_POf (mem1 qs_Same)) (by simp)) rfl rfl fn_PadApart (shs := [.l .u64 2, .l .u64 2, .b]) (by kernel_rfl) 1000
    (fun fs => [C2 (fs 0 0) (fs 0 1), C2 (fs 1 0) (fs 1 1), .one (.sb (fs 2 0 != 0))]) (fun _ => rfl) (fun fs hok => ⟨_, run_PadApart isNo padT (fs 0 0) (fs 0 1) (fs 1 0) (fs 1 1) (fs 2 0 != 0), by
      obtain ⟨h1, h2⟩ := two_ok hok.1
      obtain ⟨h3, h4⟩ := two_ok hok.2.1
      exact ⟨fun _ => apart_sat h1 h2 h3 h4, fun _ => apart_sat h1 h2 h3 h4⟩⟩) hsz hval (fun p hp => by cases hp)
end Go.Proofs.Ytljchidgchjoeaa
