/- Layer 10: a message's padding. -/
import Derived.Test.YtljchidgchjoeaaSb13
namespace Go.Proofs.Ytljchidgchjoeaa
open Go Go.Ax

theorem fn_POf : FnOk Try.prog 24 Try.f24 := ⟨Try.func24, by kernel_rfl⟩
noncomputable def cPOf (U : List (List Int) → Int) (V : List (List Int) → GR) (T : List (List Int) → List Int) : Cfg :=
  { P := Try.prog, fns := [], gl := glFrom 0 gdB, gd := gdB, ps := [(26, gsum [.l .u64 2, .w .i64] (fun _ => []) fun l => .p (.w .i64 (U l))), (29, gsum [.l .u64 2] (fun _ => []) V)], fs := [(18, fsum [.one (.l .u64 2)] (fun _ => []) fun l => .one (.p (.c (.s 5 .u8 (T l)))))], sp := [(4, 1, [64, 128])] }
def needR : List Prop → R2 → R2
  | [], o => o
  | p :: ps, o => .need p (needR ps o)
def leafOf (t : TypeId) (s n : Int) (P : List Int) : R2 :=
  needR [0 ≤ n, n ≤ n, ((1 : Nat) : Int) * n ≤ 140737488355328, n ≤ 9223372036854775807, (0 : Int) ≤ 0, (0 : Int) < (n.toNat : Int), 0 ≤ ((0 : Nat) : Int) + 0, ((0 : Nat) : Int) + 0 < ((List.replicate n.toNat (0 : Int)).length : Int),
    0 ≤ binI .sub .i64 n (binI .quo .i64 s 8), binI .sub .i64 n (binI .quo .i64 s 8) ≤ (n.toNat : Int), (n.toNat : Int) ≤ (n.toNat : Int), 0 ≤ binI .sub .i64 16 (binI .quo .i64 s 8), binI .sub .i64 16 (binI .quo .i64 s 8) ≤ (P.length : Int), (P.length : Int) ≤ (P.length : Int),
    0 + (binI .sub .i64 16 (binI .quo .i64 s 8)).toNat + ((P.length : Int).toNat - (binI .sub .i64 16 (binI .quo .i64 s 8)).toNat) ≤ P.length,
    (0 + (binI .sub .i64 n (binI .quo .i64 s 8)).toNat) + ((n.toNat : Int).toNat - (binI .sub .i64 n (binI .quo .i64 s 8)).toNat) ≤ ((List.replicate n.toNat (0 : Int)).set 0 128).length,
    (partQ P (0 + (binI .sub .i64 16 (binI .quo .i64 s 8)).toNat) ((P.length : Int).toNat - (binI .sub .i64 16 (binI .quo .i64 s 8)).toNat)).length ≤ 9223372036854775807]
  (.leaf (.t [.c (.s t .u8 (((List.replicate n.toNat (0 : Int)).set 0 128).take (0 + (binI .sub .i64 n (binI .quo .i64 s 8)).toNat) ++
      (partQ P (0 + (binI .sub .i64 16 (binI .quo .i64 s 8)).toNat) ((P.length : Int).toNat - (binI .sub .i64 16 (binI .quo .i64 s 8)).toNat)).take ((n.toNat : Int).toNat - (binI .sub .i64 n (binI .quo .i64 s 8)).toNat) ++
      ((List.replicate n.toNat (0 : Int)).set 0 128).drop ((0 + (binI .sub .i64 n (binI .quo .i64 s 8)).toNat) + min (partQ P (0 + (binI .sub .i64 16 (binI .quo .i64 s 8)).toNat) ((P.length : Int).toNat - (binI .sub .i64 16 (binI .quo .i64 s 8)).toNat)).length ((n.toNat : Int).toNat - (binI .sub .i64 n (binI .quo .i64 s 8)).toNat)))), .c (.b true)]) [n.toNat, 0] [6])
theorem run_POf (U : List (List Int) → Int) (a b : List (List Int) → Int) (c : List (List Int) → Bool) (T : List (List Int) → List Int) (h l s : Int) :
    (callA (cPOf U (fun l => .t [.l .u64 [a l, b l], .b (c l)]) T) true 1000 Try.f24 [C2 h l, .one (.si .i64 s)] (memX gdB [.gone, .gone, .gone, .gone])).view =
    .br (cmpI .eql (U [[h, l], [s]]) 0) (.leaf (.t [.c .e, .c (.b false)]) [0, 0] []) (.br (decide (s = 64)) (leafOf 5 64 (U [[h, l], [s]]) (T [[a [[h, l]], b [[h, l]]]]))
      (.br (decide (s = 128)) (leafOf 5 128 (U [[h, l], [s]]) (T [[a [[h, l]], b [[h, l]]]])) (.bad 30))) := by kernel_rfl

/-- The last bytes: a number of so many bytes. -/
def tailL (V s : Int) : List Int := (put16 (8 * V / 18446744073709551616) (8 * V % 18446744073709551616)).drop (16 - (s / 8).toNat)
/-- The padding. -/
def padL (V s : Int) : List Int := 128 :: (List.replicate (padN V s - 1 - s / 8).toNat 0 ++ tailL V s)
def T_POf : List (List Int) → RT := fun l => .br (decide (padN (valC (at2 l 0 0) (at2 l 0 1)) (one l 1) = 0)) (.one (.t [.c .e, .c (.b false)])) (.one (.t [.c (.s 5 .u8 (padL (valC (at2 l 0 0) (at2 l 0 1)) (one l 1))), .c (.b true)]))
def q_POf := (24, fsum [.one (.l .u64 2), .one (.w .i64)] (fun _ => []) T_POf)
theorem padN_lt {V s : Int} (h : padN V s ≠ 0) : (s = 64 ∨ s = 128) ∧ fits V s = true ∧ padN V s = padEnd (V % s) (1 + s / 8) s ∧ 1 + s / 8 ≤ padN V s ∧ padN V s ≤ s + s / 8 := by
  unfold padN at h ⊢
  split at h
  · rename_i hq
    rw [if_pos hq]
    refine ⟨hq.1, hq.2, rfl, ?_, ?_⟩ <;> unfold padEnd <;> rcases hq.1 with rfl | rfl <;> omega
  · exact absurd rfl h
theorem padN_zero {V s : Int} (h : padN V s = 0) : ¬((s = 64 ∨ s = 128) ∧ fits V s = true) := by
  intro hq
  unfold padN at h
  rw [if_pos hq] at h
  unfold padEnd at h
  rcases hq.1 with rfl | rfl <;> omega
theorem fits_fit {V s : Int} (h : fits V s = true) : fit (8 * V) = true := by
  unfold fits at h
  rw [Bool.and_eq_true] at h
  exact h.1
theorem needR_sat {K : RS → List Nat → List Nat → Prop} {o : R2} : ∀ {ps : List Prop}, allP ps → o.sat K → (needR ps o).sat K
  | [], _, h => h
  | _ :: _, hp, h => ⟨hp.1, needR_sat hp.2 h⟩
theorem put16_len {h l : Int} : (put16 h l).length = 16 := by simp [put16]
theorem leafOf_sat {t : TypeId} {V s : Int} (hs : s = 64 ∨ s = 128) (hn : padN V s ≠ 0) {P : List Int} (hP : P = put16 (8 * V / 18446744073709551616) (8 * V % 18446744073709551616)) :
    (leafOf t s (padN V s) P).sat (RS.met (.t [.c (.s t .u8 (padL V s)), .c (.b true)])) := by
  obtain ⟨_, hf, _, h1, h2⟩ := padN_lt hn
  have hPl : P.length = 16 := by rw [hP, put16_len]
  obtain ⟨k, hk, hk1, hq⟩ : ∃ k : Nat, s / 8 = (k : Int) ∧ (k = 8 ∨ k = 16) ∧ binI .quo .i64 s 8 = (k : Int) := by
    rcases hs with rfl | rfl
    · exact ⟨8, by decide, .inl rfl, by decide⟩
    · exact ⟨16, by decide, .inr rfl, by decide⟩
  obtain ⟨N, hN⟩ : ∃ N : Nat, padN V s = (N : Int) := ⟨(padN V s).toNat, by omega⟩
  have hsb : s ≤ 128 := by rcases hs with rfl | rfl <;> omega
  rw [hk, hN] at h1 h2
  have hd : binI .sub .i64 (N : Int) (k : Int) = ((N - k : Nat) : Int) := by
    show IntKind.i64.wrap _ = _
    rw [wrap_ok (ok64 (by omega) (by omega))]; omega
  have he : binI .sub .i64 16 (k : Int) = ((16 - k : Nat) : Int) := by
    show IntKind.i64.wrap _ = _
    rw [wrap_ok (ok64 (by omega) (by omega))]; omega
  have htl : tailL V s = P.drop (16 - k) := by unfold tailL; rw [hk, hP]; rfl
  have hM : partQ P (0 + (16 - k)) (16 - (16 - k)) = P.drop (16 - k) := by
    rw [partQ_eq, Nat.zero_add, List.take_of_length_le (by simp [hPl])]
  unfold leafOf
  rw [hN, hq, hd, he]
  simp only [Int.toNat_natCast, hPl]
  rw [hM]
  have hMl : (P.drop (16 - k)).length = k := by simp [hPl]; omega
  have hset : (List.replicate N (0 : Int)).set 0 128 = 128 :: List.replicate (N - 1) 0 := by
    obtain ⟨m, rfl⟩ : ∃ m, N = m + 1 := ⟨N - 1, by omega⟩
    rfl
  refine needR_sat ?_ ?_
  · simp only [allP, List.length_set, List.length_replicate, hMl]
    refine ⟨by omega, by omega, by omega, by omega, by omega, by omega, by omega, by omega, by omega, by omega, by omega, by omega, by omega, by omega, by omega, by omega, by omega, trivial⟩
  · have e : ((List.replicate N (0 : Int)).set 0 128).take (0 + (N - k)) ++ (P.drop (16 - k)).take (N - (N - k)) ++ ((List.replicate N (0 : Int)).set 0 128).drop (0 + (N - k) + min (P.drop (16 - k)).length (N - (N - k))) = padL V s := by
      rw [hMl, hset, List.take_of_length_le (l := P.drop (16 - k)) (by rw [hMl]; omega), List.drop_of_length_le (l := 128 :: List.replicate (N - 1) 0) (by simp; omega), List.append_nil]
      obtain ⟨m, hm⟩ : ∃ m, 0 + (N - k) = m + 1 := ⟨N - k - 1, by omega⟩
      rw [hm, List.take_succ_cons, List.take_replicate]
      unfold padL
      rw [htl, hN, hk, List.cons_append, show ((N : Int) - 1 - (k : Int)).toNat = min m (N - 1) by omega]
    rw [e]
    have hl : (padL V s).length = N := by
      unfold padL
      rw [htl, hN, hk]
      simp [hPl]; omega
    exact ⟨rfl, ⟨hl.symm, trivial, trivial⟩, by simp⟩
noncomputable def cPOfS : Cfg := cPOf (fun l => padN (valC (at2 l 0 0) (at2 l 0 1)) (one l 1)) T_CBits fun l => put16 (at2 l 0 0) (at2 l 0 1)
theorem cokPOf : COk cPOfS := by
  refine ⟨mixedB, fun p hp => (by cases hp), fun p hp => PSOk.cast (C := cfgB [] [] []) ?_ rfl rfl rfl, (fun p hp => by cases hp), (fun p hp => by cases hp), (fun p hp => by cases hp), (fun p hp => by cases hp), fun p hp => FOk.cast (C := cfgB [] [] []) (C' := cPOfS) rfl rfl rfl ?_⟩
  · simp only [cPOfS, cPOf, List.mem_cons, List.not_mem_nil, or_false] at hp
    rcases hp with rfl | rfl
    · exact ps_Size
    · exact ps_CBits
  · simp only [cPOfS, cPOf, List.mem_cons, List.not_mem_nil, or_false] at hp
    subst hp
    exact qs_Put
theorem qs_POf : FOk (cfgB [] [] []) q_POf.1 q_POf.2 := by
  refine FOk.cast (C := cPOfS) (C' := cfgB [] [] []) rfl rfl rfl ?_
  refine fok_run (shs := [.one (.l .u64 2), .one (.w .i64)]) (T := T_POf) (conds := fun _ => []) cokPOf rfl rfl fn_POf rfl 1000 fun Ms _ _ => ⟨_, rfl, view_sat ?_⟩
  · have hr := run_POf (fun l => padN (valC (at2 l 0 0) (at2 l 0 1)) (one l 1)) (fun l => iteI (fit (8 * valC (at2 l 0 0) (at2 l 0 1))) (8 * valC (at2 l 0 0) (at2 l 0 1) / 18446744073709551616) 0) (fun l => iteI (fit (8 * valC (at2 l 0 0) (at2 l 0 1))) (8 * valC (at2 l 0 0) (at2 l 0 1) % 18446744073709551616) 0) (fun l => fit (8 * valC (at2 l 0 0) (at2 l 0 1))) (fun l => put16 (at2 l 0 0) (at2 l 0 1)) ((Ms 0).getD 0 0) ((Ms 0).getD 1 0) ((Ms 1).getD 0 0)
    refine Eq.mpr (congrArg (R2.sat _) hr) ?_
    generalize hh : (Ms 0).getD 0 0 = h
    generalize hl : (Ms 0).getD 1 0 = l
    generalize hsz : (Ms 1).getD 0 0 = s
    have hT : T_POf (dataE Ms 0 (entsQ [.one (.l .u64 2), .one (.w .i64)])) = .br (decide (padN (valC h l) s = 0)) (.one (.t [.c .e, .c (.b false)])) (.one (.t [.c (.s 5 .u8 (padL (valC h l) s)), .c (.b true)])) := by
      rw [← hh, ← hl, ← hsz]; rfl
    rw [hT]
    refine ⟨fun hc => ?_, fun hc => ?_⟩
    · have hc : cmpI .eql (padN (valC h l) s) 0 = true := hc
      have hc : padN (valC h l) s = 0 := by simpa [cmpI] using hc
      rw [decide_eq_true hc]
      exact ⟨rfl, ⟨trivial, trivial, trivial⟩, List.nodup_nil⟩
    · have hc : padN (valC h l) s ≠ 0 := by
        intro e
        have : cmpI .eql (padN (valC h l) s) 0 = true := by rw [e]; rfl
        exact Bool.noConfusion (this.symm.trans hc)
      rw [decide_eq_false hc]
      obtain ⟨hs, hf, _⟩ := padN_lt hc
      have hfit := fits_fit hf
      have hP : put16 (iteI (fit (8 * valC h l)) (8 * valC h l / 18446744073709551616) 0) (iteI (fit (8 * valC h l)) (8 * valC h l % 18446744073709551616) 0) = put16 (8 * valC h l / 18446744073709551616) (8 * valC h l % 18446744073709551616) := by rw [hfit]; rfl
      refine ⟨fun he => ?_, fun he => ⟨fun he' => ?_, fun he' => ?_⟩⟩
      · obtain rfl := of_decide_eq_true he
        exact leafOf_sat hs hc hP
      · obtain rfl := of_decide_eq_true he'
        exact leafOf_sat hs hc hP
      · have a1 := of_decide_eq_false he
        have a2 := of_decide_eq_false he'
        rcases hs with e | e
        · exact a1 e
        · exact a2 e
end Go.Proofs.Ytljchidgchjoeaa
