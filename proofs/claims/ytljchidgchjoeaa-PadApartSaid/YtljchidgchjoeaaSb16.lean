/- Layer 10's reference: the document's padding is the program's. -/
import Derived.Test.YtljchidgchjoeaaSb15
namespace Go.Proofs.Ytljchidgchjoeaa
open Go Go.Ax

theorem wrap8 (x : Int) : IntKind.u8.wrap x = x % 256 := by simp [IntKind.wrap, IntKind.bits, IntKind.signed]
theorem remN {a : Nat} : binI .rem .u64 (a : Int) 256 = ((a % 256 : Nat) : Int) := by
  show (a : Int).tmod 256 = _
  rw [Int.tmod_eq_emod_of_nonneg (by omega)]
  omega
theorem littleI_eq : ∀ {n x : Nat}, x < 18446744073709551616 → littleI (x : Int) n = (List.range n).map fun i => ((x / 256 ^ i % 256 : Nat) : Int)
  | 0, _, _ => rfl
  | n + 1, x, h => by
    have hq : binI .quo .u64 (x : Int) ((256 : Nat) : Int) = ((x / 256 : Nat) : Int) := quoN h
    have hq : binI .quo .u64 (x : Int) 256 = ((x / 256 : Nat) : Int) := hq
    rw [List.range_succ_eq_map, List.map_cons, List.map_map]
    show IntKind.u8.wrap (binI .rem .u64 (x : Int) 256) :: littleI (binI .quo .u64 (x : Int) 256) n = _
    rw [hq, littleI_eq (n := n) (x := x / 256) (by omega), remN, wrap8]
    congr 1
    · simp
    · refine List.map_congr_left fun i _ => ?_
      simp only [Function.comp, Nat.pow_succ]
      rw [Nat.div_div_eq_div_mul, Nat.mul_comm 256]
theorem byteAt_eq {x i : Nat} (hi : i < 8) : byteAt (x : Int) i = ((x / 256 ^ i % 256 : Nat) : Int) := by
  unfold byteAt
  have e : binI .mul .i64 8 (i : Int) = ((8 * i : Nat) : Int) := by
    show IntKind.i64.wrap _ = _
    rw [wrap_ok (ok64 (by omega) (by omega))]; omega
  rw [e]
  have := shrU_nat (x := x) (k := 8 * i) (by omega)
  unfold shrU at this
  rw [this, wrap8, Nat.pow_mul, show (2 : Nat) ^ 8 = 256 from rfl]
  omega
theorem bigI_eq {x : Int} (h : okI .u64 x) : bigI x = [byteAt x 7, byteAt x 6, byteAt x 5, byteAt x 4, byteAt x 3, byteAt x 2, byteAt x 1, byteAt x 0] := by
  obtain ⟨h1, h2⟩ := of_oku h
  obtain ⟨n, rfl⟩ := Int.eq_ofNat_of_zero_le h1
  have hs : ∀ k : Nat, k < 8 → sel (littleI (n : Int) 8) (((0 : Nat) : Int) + (k : Int)) = byteAt (n : Int) k := fun k hk => by
    rw [byteAt_eq hk, littleI_eq (by omega), sel_at (by simpa using hk)]
    simp
  show [sel (littleI (n : Int) 8) (((0 : Nat) : Int) + ((7 : Nat) : Int)), sel (littleI (n : Int) 8) (((0 : Nat) : Int) + ((6 : Nat) : Int)), sel (littleI (n : Int) 8) (((0 : Nat) : Int) + ((5 : Nat) : Int)), sel (littleI (n : Int) 8) (((0 : Nat) : Int) + ((4 : Nat) : Int)), sel (littleI (n : Int) 8) (((0 : Nat) : Int) + ((3 : Nat) : Int)), sel (littleI (n : Int) 8) (((0 : Nat) : Int) + ((2 : Nat) : Int)), sel (littleI (n : Int) 8) (((0 : Nat) : Int) + ((1 : Nat) : Int)), sel (littleI (n : Int) 8) (((0 : Nat) : Int) + ((0 : Nat) : Int))] = _
  rw [hs 7 (by omega), hs 6 (by omega), hs 5 (by omega), hs 4 (by omega), hs 3 (by omega), hs 2 (by omega), hs 1 (by omega), hs 0 (by omega)]
theorem put16_eq (h l : Int) : put16 h l = [byteAt h 7, byteAt h 6, byteAt h 5, byteAt h 4, byteAt h 3, byteAt h 2, byteAt h 1, byteAt h 0, byteAt l 7, byteAt l 6, byteAt l 5, byteAt l 4, byteAt l 3, byteAt l 2, byteAt l 1, byteAt l 0] := rfl
theorem bigs {V : Int} (h : fit (8 * V) = true) : okI .u64 (8 * V / 18446744073709551616) ∧ okI .u64 (8 * V % 18446744073709551616) := by
  unfold fit at h
  rw [Bool.and_eq_true] at h
  have h1 := of_decide_eq_true h.1
  have h2 := of_decide_eq_true h.2
  exact ⟨oku (by omega) (by omega), oku (by omega) (by omega)⟩
theorem tail64 {V : Int} (h : fit (8 * V) = true) : tailL V 64 = bigI (8 * V % 18446744073709551616) := by
  unfold tailL
  rw [bigI_eq (bigs h).2, put16_eq]
  rfl
theorem tail128 {V : Int} (h : fit (8 * V) = true) : tailL V 128 = bigI (8 * V / 18446744073709551616) ++ bigI (8 * V % 18446744073709551616) := by
  unfold tailL
  rw [bigI_eq (bigs h).1, bigI_eq (bigs h).2, put16_eq]
  rfl

/-! ## The noughts -/

def St_rof (x : IRof) : LS := ⟨[(9, .one (.sq 0 1 0 x.n)), (1, .one (.si .i64 x.s)), (2, .one (.ptr 2 0)), (8, .one (.sq 3 4 0 x.m))], bl_rof x x.L⟩
theorem pi_rof_fits (s : LS) (x : IRof) (h : pi_rof s = some x) : s.fits (St_rof x) := by
  unfold pi_rof at h
  split at h
  · split at h
    · rename_i s' hs ht
      have ht := Nat.eq_of_beq_eq_true ht
      subst ht
      cases h
      exact ⟨⟨rfl, .inl rfl, rfl, i64_fits hs, rfl, .inl rfl, rfl, .inl rfl, trivial⟩, rfl⟩
    · cases h
  · cases h
theorem run_bd_rof (x : IRof) (X : AE → Option LS → Prop) :
    exec (cfgB [] [p_RMod] []) 100 (.run bd_rof) (slots 56 (St_rof x).sl) (memX gdB (St_rof x).bl) (endX 0 56 [9, 1, 2, 8] [.of 9, .fix 2, .fix 3, .fix 4] [true, true, false, false, false] X) =
    .need (x.s ≠ 0) (.br (cmpI .neq (binI .rem .i64 (binI .add .i64 (binI .add .i64 (modV (valC x.h x.l) x.s) (x.n : Int)) (x.m : Int)) x.s) 0)
      (.need (x.n = x.L.length) (.need True (.need (lenP (x.L ++ [0])) (.need (X .normal (some ⟨[(9, .one (.sq 0 1 0 (x.L ++ [0]).length)), (1, .one (.si .i64 x.s)), (2, .one (.ptr 2 0)), (8, .one (.sq 3 4 0 x.m))], bl_rof x (x.L ++ [0])⟩)) (.done .any Mem.empty)))))
      (.need (X (.exit 0) (some (St_rof x))) (.done .any Mem.empty))) := by kernel_rfl
def J_rof (x : IRof) : Int := (-(valC x.h x.l % x.s + 1 + (x.m : Int))) % x.s
def fin_rof (x : IRof) : List Int := 128 :: List.replicate (J_rof x).toNat 0
def ok_rof (x : IRof) : Prop := (x.s = 64 ∨ x.s = 128) ∧ (x.m : Int) = x.s / 8 ∧ x.n = 1 ∧ x.L = [128]
def Inv_rof (x : IRof) : Prop := (x.s = 64 ∨ x.s = 128) ∧ (x.m : Int) = x.s / 8 ∧ x.n = x.L.length ∧ ∃ j : Nat, x.L = 128 :: List.replicate j 0 ∧ (j : Int) ≤ J_rof x
def Ex_rof (x : IRof) (e : AE) (s : LS) : Prop := e = .exit 0 ∧ s = ⟨[(9, .one (.sq 0 1 0 (fin_rof x).length)), (1, .one (.si .i64 x.s)), (2, .one (.ptr 2 0)), (8, .one (.sq 3 4 0 x.m))], bl_rof x (fin_rof x)⟩
theorem cok_rof : COk (cfgB [] [p_RMod] []) := cokB (by simp) (by simp [ps_RMod]) (by simp)
theorem lq_rof : LoopQ (cfgB [] [] []) bd_rof (F_rof ok_rof fin_rof) := by
  refine LoopQ.cast (C := cfgB [] [p_RMod] []) (C' := cfgB [] [] []) rfl rfl rfl ?_
  refine lq_rule (C := cfgB [] [p_RMod] []) cok_rof rfl (n := 100) (ri := [.of 9, .fix 2, .fix 3, .fix 4]) (St := St_rof) (Inv := Inv_rof) (mu := fun x => (J_rof x + 1 - x.n).toNat) (Ex := Ex_rof) pi_rof_fits (fun x h => ?_) (fun K k x _ hs e s he => ?_) (fun x hI => ?_)
  · obtain ⟨h1, h2, h3, h4⟩ := h
    refine ⟨h1, h2, by rw [h3, h4]; rfl, 0, h4, ?_⟩
    unfold J_rof
    rcases h1 with e | e <;> rw [e] <;> omega
  · obtain ⟨rfl, rfl⟩ := he
    exact hs
  · show Out.sat (fun _ _ => True) (exec (cfgB [] [p_RMod] []) 100 (.run bd_rof) (slots 56 (St_rof x).sl) (memX gdB (St_rof x).bl) (endX 0 56 [9, 1, 2, 8] [.of 9, .fix 2, .fix 3, .fix 4] [true, true, false, false, false] _))
    rw [run_bd_rof]
    obtain ⟨t, h, l, s, n, L, t8, M, m⟩ := x
    obtain ⟨h1, h2, h3, j, h4, h5⟩ := hI
    dsimp only at h1 h2 h3 h4 ⊢
    subst h4
    have hn : n = j + 1 := by rw [h3]; simp
    subst hn
    have hJ : J_rof ⟨t, h, l, s, j + 1, 128 :: List.replicate j 0, t8, M, m⟩ = (-(valC h l % s + 1 + (m : Int))) % s := rfl
    rw [hJ] at h5
    have hb : j < 128 := by rcases h1 with rfl | rfl <;> omega
    have hm : m ≤ 16 := by rcases h1 with rfl | rfl <;> omega
    have a1 : 0 ≤ valC h l % s ∧ valC h l % s < 128 := by rcases h1 with rfl | rfl <;> omega
    have e0 : modV (valC h l) s = valC h l % s := modV_in (by rcases h1 with rfl | rfl <;> omega) (by rcases h1 with rfl | rfl <;> omega)
    have e1 : binI .add .i64 (valC h l % s) ((j + 1 : Nat) : Int) = valC h l % s + ((j + 1 : Nat) : Int) := wrap_ok (ok64 (by omega) (by omega))
    have e2 : binI .add .i64 (valC h l % s + ((j + 1 : Nat) : Int)) (m : Int) = valC h l % s + ((j + 1 : Nat) : Int) + (m : Int) := wrap_ok (ok64 (by omega) (by omega))
    have e3 : binI .rem .i64 (valC h l % s + ((j + 1 : Nat) : Int) + (m : Int)) s = (valC h l % s + ((j + 1 : Nat) : Int) + (m : Int)) % s := by
      show (valC h l % s + ((j + 1 : Nat) : Int) + (m : Int)).tmod s = _
      exact Int.tmod_eq_emod_of_nonneg (by omega)
    rw [e0, e1, e2, e3]
    have key : (valC h l % s + ((j + 1 : Nat) : Int) + (m : Int)) % s = 0 ↔ (j : Int) = (-(valC h l % s + 1 + (m : Int))) % s := by
      rcases h1 with rfl | rfl <;> constructor <;> intro h <;> omega
    refine ⟨by rcases h1 with rfl | rfl <;> omega, fun hc => ?_, fun hc => ?_⟩
    · have hc : ¬ (valC h l % s + ((j + 1 : Nat) : Int) + (m : Int)) % s = 0 := by simpa [cmpI] using hc
      have hne := fun e => hc (key.2 e)
      have hL : (128 :: List.replicate j (0 : Int)) ++ [0] = 128 :: List.replicate (j + 1) 0 := by
        rw [List.cons_append, List.replicate_succ']
      rw [hL]
      refine ⟨h3, trivial, ⟨by simp; omega, by simp; omega⟩, ⟨⟨t, h, l, s, j + 2, 128 :: List.replicate (j + 1) 0, t8, M, m⟩, ⟨h1, h2, by simp, j + 1, rfl, ?_⟩, ?_, fun e s' h => h, ⟨rfl, .inl (by simp), rfl, .inl rfl, rfl, .inl rfl, rfl, .inl rfl, trivial⟩, rfl⟩, trivial⟩
      · show ((j + 1 : Nat) : Int) ≤ (-(valC h l % s + 1 + (m : Int))) % s
        omega
      · show ((-(valC h l % s + 1 + (m : Int))) % s + 1 - ((j + 2 : Nat) : Int)).toNat < ((-(valC h l % s + 1 + (m : Int))) % s + 1 - ((j + 1 : Nat) : Int)).toNat
        omega
    · have hc : (valC h l % s + ((j + 1 : Nat) : Int) + (m : Int)) % s = 0 := by simpa [cmpI] using hc
      have hj := key.1 hc
      have hf : fin_rof ⟨t, h, l, s, j + 1, 128 :: List.replicate j 0, t8, M, m⟩ = 128 :: List.replicate j 0 := by
        unfold fin_rof
        rw [hJ, ← hj]; rfl
      refine ⟨⟨_, ⟨rfl, rfl⟩, ?_⟩, trivial⟩
      rw [hf]
      exact ⟨⟨rfl, .inl (by rw [h3]), rfl, .inl rfl, rfl, .inl rfl, rfl, .inl rfl, trivial⟩, rfl⟩

/-! ## The function -/

theorem fn_ROf : FnOk Try.prog 25 Try.f25 := ⟨Try.func25, by kernel_rfl⟩
noncomputable def cROfS : Cfg := cROf (fun l => fits (valC (at2 l 0 0) (at2 l 0 1)) (one l 1)) T_CBits T_Big ok_rof fin_rof
theorem cokROf : COk cROfS := by
  refine ⟨mixedB, fun p hp => (by cases hp), fun p hp => PSOk.cast (C := cfgB [] [] []) ?_ rfl rfl rfl, (fun p hp => by cases hp), (fun p hp => by cases hp), (fun p hp => by cases hp), fun p hp => LoopQ.cast (C := cfgB [] [] []) (C' := cROfS) rfl rfl rfl ?_, fun p hp => FOk.cast (C := cfgB [] [] []) (C' := cROfS) rfl rfl rfl ?_⟩
  · simp only [cROfS, cROf, List.mem_cons, List.not_mem_nil, or_false] at hp
    rcases hp with rfl | rfl
    · exact ps_RFits
    · exact ps_RBits
  · simp only [cROfS, cROf, List.mem_cons, List.not_mem_nil, or_false] at hp
    subst hp
    exact lq_rof
  · simp only [cROfS, cROf, List.mem_cons, List.not_mem_nil, or_false] at hp
    subst hp
    exact qs_Big
def q_ROf := (25, fsum [.one (.l .u64 2), .one (.w .i64)] (fun _ => []) T_POf)
theorem bigI_len {x : Int} : (bigI x).length = 8 := by simp [bigI]
theorem partQ_all (L : List Int) : partQ L 0 L.length = L := by rw [partQ_eq]; simp
theorem rofEnd_sat {V s : Int} (hn : padN V s ≠ 0) {x : IRof} {b : Nat} (hx : ok_rof x) (hs : x.s = s) (hV : valC x.h x.l = V) (hM : x.M = tailL V s) (hm : x.m = x.M.length) :
    (rofEnd ok_rof fin_rof x b).sat (RS.met (.t [.c (.s 5 .u8 (padL V s)), .c (.b true)])) := by
  obtain ⟨h1, h2, h3, h4⟩ := padN_lt hn
  have hJ : (J_rof x).toNat = (padN V s - 1 - s / 8).toNat := by
    rw [h3]
    unfold J_rof padEnd
    rw [hs, hV, hx.2.1, hs]
    rw [show V % s + (1 + s / 8) = V % s + 1 + s / 8 by omega]
    congr 1
    omega
  have hfin : fin_rof x ++ partQ x.M 0 x.m = padL V s := by
    rw [hm, partQ_all, hM]
    unfold fin_rof padL
    rw [hJ]; rfl
  have hlen : (padL V s).length ≤ 400 := by
    unfold padL tailL
    rw [put16_eq]
    simp only [List.length_cons, List.length_append, List.length_replicate, List.length_drop, List.length_nil]
    have := h4.2
    rcases h1 with e | e <;> rw [e] at this ⊢ <;> omega
  unfold rofEnd
  rw [hfin]
  exact needR_sat ⟨rfl, hx, rfl, by rw [hm]; omega, trivial, ⟨by omega, by omega⟩, trivial⟩ ⟨rfl, ⟨rfl, trivial, trivial⟩, by simp⟩
theorem qs_ROf : FOk (cfgB [] [] []) q_ROf.1 q_ROf.2 := by
  refine FOk.cast (C := cROfS) (C' := cfgB [] [] []) rfl rfl rfl ?_
  refine fok_run (shs := [.one (.l .u64 2), .one (.w .i64)]) (T := T_POf) (conds := fun _ => []) cokROf rfl rfl fn_ROf rfl 1000 fun Ms hok _ => ⟨_, rfl, view_sat ?_⟩
  have hr := run_ROf (fun l => fits (valC (at2 l 0 0) (at2 l 0 1)) (one l 1)) (fun l => iteI (fit (8 * valC (at2 l 0 0) (at2 l 0 1))) (8 * valC (at2 l 0 0) (at2 l 0 1) / 18446744073709551616) 0) (fun l => iteI (fit (8 * valC (at2 l 0 0) (at2 l 0 1))) (8 * valC (at2 l 0 0) (at2 l 0 1) % 18446744073709551616) 0) (fun l => fit (8 * valC (at2 l 0 0) (at2 l 0 1))) T_Big ok_rof fin_rof ((Ms 0).getD 0 0) ((Ms 0).getD 1 0) ((Ms 1).getD 0 0)
  refine Eq.mpr (congrArg (R2.sat _) hr) ?_
  generalize hh : (Ms 0).getD 0 0 = h
  generalize hl : (Ms 0).getD 1 0 = l
  generalize hsz : (Ms 1).getD 0 0 = s
  have hT : T_POf (dataE Ms 0 (entsQ [.one (.l .u64 2), .one (.w .i64)])) = .br (decide (padN (valC h l) s = 0)) (.one (.t [.c .e, .c (.b false)])) (.one (.t [.c (.s 5 .u8 (padL (valC h l) s)), .c (.b true)])) := by
    rw [← hh, ← hl, ← hsz]; rfl
  rw [hT]
  generalize hV : valC h l = V
  have none_ok : padN V s = 0 → R2.sat (RS.met (RT.br (decide (padN V s = 0)) (.one (.t [.c .e, .c (.b false)])) (.one (.t [.c (.s 5 .u8 (padL V s)), .c (.b true)]))).now) (.leaf (.t [.c .e, .c (.b false)]) [0, 0] []) := fun h0 => by
    rw [decide_eq_true h0]
    exact ⟨rfl, ⟨trivial, trivial, trivial⟩, List.nodup_nil⟩
  have one_ok : ∀ {o : R2}, padN V s ≠ 0 → o.sat (RS.met (.t [.c (.s 5 .u8 (padL V s)), .c (.b true)])) → R2.sat (RS.met (RT.br (decide (padN V s = 0)) (.one (.t [.c .e, .c (.b false)])) (.one (.t [.c (.s 5 .u8 (padL V s)), .c (.b true)]))).now) o := fun h0 ho => by
    rw [decide_eq_false h0]
    exact ho
  have C_ok : (s = 64 ∨ s = 128) → R2.sat (RS.met (RT.br (decide (padN V s = 0)) (.one (.t [.c .e, .c (.b false)])) (.one (.t [.c (.s 5 .u8 (padL V s)), .c (.b true)]))).now) (.br (!fits V s) (.leaf (.t [.c .e, .c (.b false)]) [0, 0] []) (.br (decide (s = 64)) (rof64 ok_rof fin_rof h l (bigI (iteI (fit (8 * V)) (8 * V % 18446744073709551616) 0))) (.br (decide (s = 128)) (rof128 ok_rof fin_rof h l (bigI (iteI (fit (8 * V)) (8 * V / 18446744073709551616) 0)) (bigI (iteI (fit (8 * V)) (8 * V % 18446744073709551616) 0))) (.bad 30)))) := fun hs => by
    refine ⟨fun hc => ?_, fun hc => ?_⟩
    · have hc : ¬ fits V s = true := by intro e; rw [e] at hc; cases hc
      exact none_ok (if_neg fun q => hc q.2)
    · have hf : fits V s = true := by
        cases hq : fits V s with
        | true => rfl
        | false => rw [hq] at hc; cases hc
      have hn : padN V s ≠ 0 := fun h0 => padN_zero h0 ⟨hs, hf⟩
      have hfit := fits_fit hf
      rw [hfit]
      refine ⟨fun he => ?_, fun he => ⟨fun he' => ?_, fun he' => ?_⟩⟩
      · obtain rfl := of_decide_eq_true he
        refine one_ok hn (needR_sat ⟨rfl, by omega, ?_, ?_, trivial⟩ (rofEnd_sat hn ⟨.inl rfl, ?_, rfl, rfl⟩ rfl hV ?_ rfl))
        · rw [partQ_all, bigI_len]; omega
        · rw [partQ_all, List.nil_append]; unfold lenP; rw [bigI_len]; exact ⟨by omega, by omega⟩
        · rw [partQ_all, List.nil_append, bigI_len]; rfl
        · show [] ++ partQ _ _ _ = _
          rw [partQ_all, List.nil_append, tail64 hfit]; rfl
      · obtain rfl := of_decide_eq_true he'
        refine one_ok hn (needR_sat ⟨rfl, rfl, rfl, by omega, trivial, ?_, trivial⟩ (rofEnd_sat hn ⟨.inr rfl, ?_, rfl, rfl⟩ rfl hV ?_ rfl))
        · rw [partQ_all]; unfold lenP; rw [List.length_append, bigI_len, bigI_len]; exact ⟨by omega, by omega⟩
        · rw [partQ_all, List.length_append, bigI_len, bigI_len]; rfl
        · show _ ++ partQ _ _ _ = _
          rw [partQ_all, tail128 hfit]; rfl
      · have a1 := of_decide_eq_false he
        have a2 := of_decide_eq_false he'
        rcases hs with e | e
        · exact absurd e a1
        · exact absurd e a2
  subst hV
  refine ⟨fun h1 => ⟨fun h2 => none_ok (if_neg fun q => ?_), fun h2 => C_ok (.inr (by simpa [cmpI] using h2))⟩, fun h1 => C_ok (.inl (by simpa [cmpI] using h1))⟩
  have a1 : s ≠ 64 := by simpa [cmpI] using h1
  have a2 : s ≠ 128 := by simpa [cmpI] using h2
  rcases q.1 with e | e
  · exact a1 e
  · exact a2 e
end Go.Proofs.Ytljchidgchjoeaa
