/- Layer 12: the reference's chi (its inner loop by a contract). -/
import Derived.Test.YtpnikmkijedmbaaDoorSa11
namespace Go.Proofs.YtpnikmkijedmbaaDoor
open Go Go.Ax

def chiBits (p q r : Int) : List Int := tab 64 fun j => iteI (cmpI .eql ((bitsL q).getD j 0) 0) (binI .rem .i64 (binI .add .i64 ((bitsL p).getD j 0) ((bitsL r).getD j 0)) 2) ((bitsL p).getD j 0)
def chiV (p q r : Nat → Int) : List Int := tab 64 fun j => iteI (cmpI .eql (q j) 0) (binI .rem .i64 (binI .add .i64 (p j) (r j)) 2) (p j)

/-! ## The inner loop -/

noncomputable def bd_chi : Code := loopAt Tryd.f19 2
noncomputable def cChiL : Cfg := { cfg [] [] with mg := [13] }
theorem cok_chiL : COk cChiL := ⟨mixedA, by simp [cChiL, cfg], by simp [cChiL, cfg], fun p hp => by cases hp⟩
def si64 (l : List Int) : List SV := l.map (.si .i64)
def st_chi (v1 v2 v3 v4 v5 : Value) : TM := slots 63 [(1, .one (.raw v1)), (2, .one (.raw v2)), (3, .one (.raw v3)), (4, .one (.raw v4)), (5, .one (.raw v5)), (6, .one (.ptr 2 0)), (7, .one (.ptr 3 0)), (8, .one (.ptr 4 0)), (9, .one (.li .i64 0))]
theorem run_bd_chi (p q r : Nat → Int) (t : TypeId) (v1 v2 v3 v4 v5 : Value) (G : AE → Nat → AV → AV → AV → AV → AV → AV → Option AB → Out) :
    exec cChiL 200 (.again bd_chi) (st_chi v1 v2 v3 v4 v5) (memX gdA [.cells t (si64 (tab 64 p)), .ro (si64 (tab 64 q)), .ro (si64 (tab 64 r))])
      (fun e tm mem => G e tm.sz (tm.get 1) (tm.get 2) (tm.get 3) (tm.get 4) (tm.get 5) (tm.get 6) (mem.get 2)) =
    G (.exit 4) 63 (.one (.raw v1)) (.one (.raw v2)) (.one (.raw v3)) (.one (.raw v4)) (.one (.raw v5)) (.one (.ptr 2 0)) (some (.cells t (si64 (chiV p q r)))) := by kernel_rfl

def known : AV → Bool
  | .one .any => false
  | .one _ => true
  | _ => false
def cells64 (mem : Mem) (b : Nat) : Option (TypeId × List Int) := match mem.get b with
  | some (.cells t l) => match intsOf .i64 l with
    | some es => match Nat.beq es.length 64 with | true => some (t, es) | false => none
    | none => none
  | _ => none
def F_chi : TM → Mem → Option (List Prop × AE × TM × Mem) := fun tm mem =>
  match tm.get 6, tm.get 7, tm.get 8, tm.get 9 with
  | .one (.ptr p o), .one (.ptr q o'), .one (.ptr r o''), .one (.li .i64 i) => match cells64 mem p, cells64 mem q, cells64 mem r with
    | some (t, P), some (_, Q), some (_, R) => match Nat.beq tm.sz 63 && Nat.beq o 0 && Nat.beq o' 0 && Nat.beq o'' 0 && decide (i = 0) && !(Nat.beq p q) && !(Nat.beq p r) && known (tm.get 1) && known (tm.get 2) && known (tm.get 3) && known (tm.get 4) && known (tm.get 5) with
      | true => some ([], .exit 4, slots 63 [(1, tm.get 1), (2, tm.get 2), (3, tm.get 3), (4, tm.get 4), (5, tm.get 5), (6, tm.get 6)], mem.set p (.cells t (si64 (chiV (nth P) (nth Q) (nth R)))))
      | false => none
    | _, _, _ => none
  | _, _, _, _ => none

theorem known_raw {env env' : Nat → Nat} {m m' : Nat} {x : AV} {v : Value} (hk : known x = true) (h : x.R env m v) : (AV.one (.raw v)).R env' m' v := by
  match x, hk, h with
  | .one s, hk, h => exact raw_R (s := s) h (fun e => by subst e; cases hk)

theorem cells64_spec {mem : Mem} {b : Nat} {t : TypeId} {es : List Int} (h : cells64 mem b = some (t, es)) : ∃ l, mem.get b = some (.cells t l) ∧ intsOf .i64 l = some es ∧ es.length = 64 := by
  unfold cells64 at h
  split at h
  · rename_i t' l hl
    split at h
    · rename_i es' he
      split at h
      · rename_i hn; cases h; exact ⟨l, hl, he, Nat.eq_of_beq_eq_true hn⟩
      · cases h
    · cases h
  · cases h

theorem lp_chi : LoopOk (cfg [] []) bd_chi F_chi := by
  intro tm mem ps e tm' mem' hF _ B w0 env a w Q0 hr hk
  unfold F_chi at hF
  split at hF
  · rename_i p o q o' r o'' i h6 h7 h8 h9
    split at hF
    · rename_i t P _ Q _ R hp hq hr'
      split at hF
      · rename_i hc
        simp only [Bool.and_eq_true, decide_eq_true_eq, Bool.not_eq_true', Nat.beq_eq] at hc
        obtain ⟨⟨⟨⟨⟨⟨⟨⟨⟨⟨⟨hsz, rfl⟩, rfl⟩, rfl⟩, rfl⟩, hpq⟩, hpr⟩, k1⟩, k2⟩, k3⟩, k4⟩, k5⟩ := hc
        cases hF
        have hpq : p ≠ q := fun e => by subst e; simp at hpq
        have hpr : p ≠ r := fun e => by subst e; simp at hpr
        obtain ⟨lp, hp1, hp2, hp3⟩ := cells64_spec hp
        obtain ⟨lq, hq1, hq2, hq3⟩ := cells64_spec hq
        obtain ⟨lr, hr1, hr2, hr3⟩ := cells64_spec hr'
        obtain ⟨vp, bp1, bp2, bp3⟩ := hr.mem.blk p _ hp1
        obtain ⟨vq, bq1, bq2, bq3⟩ := hr.mem.blk q _ hq1
        obtain ⟨vr, br1, br2, br3⟩ := hr.mem.blk r _ hr1
        have hnq : env q ≠ env p := hr.mem.sep q p _ _ hq1 hp1 (Ne.symm hpq) rfl rfl
        have hnr : env r ≠ env p := hr.mem.sep r p _ _ hr1 hp1 (Ne.symm hpr) rfl rfl
        have hBb : ∀ k, B k → but w (env p) k := fun k hk => ⟨hr.mem.base k hk, fun e => bp3 (e ▸ hk)⟩
        have ints : ∀ {es : List Int} {l : List SV} {vs : List Value}, intsOf .i64 l = some es → es.length = 64 → All2 (SV.R env mem.n) l vs → ∀ (env' : Nat → Nat) (m' : Nat), All2 (SV.R env' m') (si64 (tab 64 (nth es))) vs := fun {es l vs} h1 h2 h3 env' m' => by
          obtain ⟨q1, q2⟩ := intsOf_R h1 h3
          rw [q1, show tab 64 (nth es) = es from tab_self h2]
          exact All2.both _ _ es fun e he => ⟨q2 e he, rfl⟩
        have hmr : MR cChiL (but w (env p)) w (envX gdA [env p, env q, env r]) (memX gdA [.cells t (si64 (tab 64 (nth P))), .ro (si64 (tab 64 (nth Q))), .ro (si64 (tab 64 (nth R)))]) w := by
          refine MR.focus (C := cChiL) rfl (fun g hg => ⟨hBb _ (hr.mem.gd g hg).1, (hr.mem.gd g hg).2⟩) (fun b hb => hb.1) (fun j ab hj env' m' => ?_) (fun i j a b hi hj hne ha hb => ?_)
          · match j, hj with
            | 0, hj => cases hj; exact ⟨vp, bp1, ints hp2 hp3 bp2 _ _, fun h => h.2 rfl⟩
            | 1, hj => cases hj; exact ⟨vq, [], _, _, by rw [List.append_nil]; exact bq1, ints hq2 hq3 bq2 _ _, (Array.getElem?_eq_some_iff.1 bq1).1, hnq⟩
            | 2, hj => cases hj; exact ⟨vr, [], _, _, by rw [List.append_nil]; exact br1, ints hr2 hr3 br2 _ _, (Array.getElem?_eq_some_iff.1 br1).1, hnr⟩
            | j + 3, hj => cases hj
          · exfalso
            match i, hi, j, hj with
            | 0, _, 0, _ => exact hne rfl
            | 0, _, 1, hj => cases hj; cases hb
            | 0, _, 2, hj => cases hj; cases hb
            | 0, _, j + 3, hj => cases hj
            | 1, hi, _, _ => cases hi; cases ha
            | 2, hi, _, _ => cases hi; cases ha
            | i + 3, hi, _, _ => cases hi
        have hrel : Rel cChiL (but w (env p)) w (envX gdA [env p, env q, env r]) (st_chi (a.tmps.getD 1 undef) (a.tmps.getD 2 undef) (a.tmps.getD 3 undef) (a.tmps.getD 4 undef) (a.tmps.getD 5 undef)) (memX gdA [.cells t (si64 (tab 64 (nth P))), .ro (si64 (tab 64 (nth Q))), .ro (si64 (tab 64 (nth R)))]) a w := by
          refine ⟨hr.size.trans (hsz.trans slots_sz.symm), fun t => slots_R fun x hx ht => ?_, hr.defers, hmr⟩
          subst ht
          simp only [List.mem_cons, List.not_mem_nil, or_false] at hx
          rcases hx with rfl | rfl | rfl | rfl | rfl | rfl | rfl | rfl | rfl
          · exact known_raw k1 (hr.tmp 1)
          · exact known_raw k2 (hr.tmp 2)
          · exact known_raw k3 (hr.tmp 3)
          · exact known_raw k4 (hr.tmp 4)
          · exact known_raw k5 (hr.tmp 5)
          · have h := hr.tmp 6; rw [h6] at h; exact ⟨(by decide : 2 < 5), h.2⟩
          · have h := hr.tmp 7; rw [h7] at h; exact ⟨(by decide : 3 < 5), h.2⟩
          · have h := hr.tmp 8; rw [h8] at h; exact ⟨(by decide : 4 < 5), h.2⟩
          · have h := hr.tmp 9; rw [h9] at h; exact h
        refine again_step (C := cChiL) cok_chiL (n := 200) (P := fun e tm' m' => e = .exit 4 ∧ tm'.sz = 63 ∧ tm'.get 1 = .one (.raw (a.tmps.getD 1 undef)) ∧ tm'.get 2 = .one (.raw (a.tmps.getD 2 undef)) ∧ tm'.get 3 = .one (.raw (a.tmps.getD 3 undef)) ∧ tm'.get 4 = .one (.raw (a.tmps.getD 4 undef)) ∧ tm'.get 5 = .one (.raw (a.tmps.getD 5 undef)) ∧ tm'.get 6 = .one (.ptr 2 0) ∧ m'.get 2 = some (.cells t (si64 (chiV (nth P) (nth Q) (nth R))))) ?_ hrel ?_
        · unfold endAt
          have := run_bd_chi (nth P) (nth Q) (nth R) t (a.tmps.getD 1 undef) (a.tmps.getD 2 undef) (a.tmps.getD 3 undef) (a.tmps.getD 4 undef) (a.tmps.getD 5 undef) (fun e sz w1 w2 w3 w4 w5 w6 ab => .need (e = .exit 4 ∧ sz = 63 ∧ w1 = .one (.raw (a.tmps.getD 1 undef)) ∧ w2 = .one (.raw (a.tmps.getD 2 undef)) ∧ w3 = .one (.raw (a.tmps.getD 3 undef)) ∧ w4 = .one (.raw (a.tmps.getD 4 undef)) ∧ w5 = .one (.raw (a.tmps.getD 5 undef)) ∧ w6 = .one (.ptr 2 0) ∧ ab = some (.cells t (si64 (chiV (nth P) (nth Q) (nth R))))) (.done .any Mem.empty))
          rw [this]
          exact ⟨⟨rfl, rfl, rfl, rfl, rfl, rfl, rfl, rfl, rfl⟩, trivial⟩
        · intro e tm' m' env' a' w' hP hR hE
          obtain ⟨rfl, g0, g1, g2, g3, g4, g5, g6, gm⟩ := hP
          obtain ⟨vs, c1, c2, c3⟩ := hR.mem.blk 2 _ gm
          have he2 : env' 2 = env p := hE.2 2 (by decide : 2 < 5)
          rw [he2] at c1
          refine hk env a' w' ⟨hR.size.trans (g0.trans slots_sz.symm), fun t => slots_R fun x hx ht => ?_, hR.defers, hr.mem.unfocus hp1 hR.mem.below c1 (all2_flat (by simp [si64, SV.flat]) c2)⟩ (Ext.refl _ _)
          subst ht
          simp only [List.mem_cons, List.not_mem_nil, or_false] at hx
          rcases hx with rfl | rfl | rfl | rfl | rfl | rfl
          · have h := hR.tmp 1; rw [g1] at h; show (tm.get 1).R env mem.n _; rw [h.2]; exact hr.tmp 1
          · have h := hR.tmp 2; rw [g2] at h; show (tm.get 2).R env mem.n _; rw [h.2]; exact hr.tmp 2
          · have h := hR.tmp 3; rw [g3] at h; show (tm.get 3).R env mem.n _; rw [h.2]; exact hr.tmp 3
          · have h := hR.tmp 4; rw [g4] at h; show (tm.get 4).R env mem.n _; rw [h.2]; exact hr.tmp 4
          · have h := hR.tmp 5; rw [g5] at h; show (tm.get 5).R env mem.n _; rw [h.2]; exact hr.tmp 5
          · have h := hR.tmp 6; rw [g6] at h
            have h0 := hr.tmp 6; rw [h6] at h0
            show (tm.get 6).R env mem.n _
            rw [h6, h.2]
            exact ⟨h0.1, by simp only [SV.conc, he2]⟩
      · cases hF
    · cases hF
  · cases hF

/-! ## The function -/

def chiR (es : List Int) : List Int := tab 25 fun i => ofI (chiBits (nth es i) (nth es (5 * (i / 5) + (i % 5 + 1) % 5)) (nth es (5 * (i / 5) + (i % 5 + 2) % 5)))
theorem fn_RChi : FnOk Tryd.prog 19 Tryd.f19 := ⟨Tryd.func19, by kernel_rfl⟩
/-- Bits and their word, by whatever function: the run doesn't ask. -/
def pBitsV (T : Int → Nat → Int) := (41, gsum [.w .u64] (fun _ => []) fun l => .p (.l .i64 (tab 64 (T (one l 0)))))
def pOfV (U : List Int → Int) := (42, gsum [.l .i64 64] (fun _ => []) fun l => .p (.w .u64 (U (row0 l))))
noncomputable def cRChi (T : Int → Nat → Int) (U : List Int → Int) : Cfg := cfgL [] [p_place, pBitsV T, pOfV U] [] [(10, bd_chi, F_chi)]
def chiRV (T : Int → Nat → Int) (U : List Int → Int) (es : List Int) : List Int := tab 25 fun i => U (chiV (T (nth es i)) (T (nth es (5 * (i / 5) + (i % 5 + 1) % 5))) (T (nth es (5 * (i / 5) + (i % 5 + 2) % 5))))
def needN (p : Prop) : Nat → Out → Out
  | 0, o => o
  | n + 1, o => .need p (needN p n o)
theorem needN_sat {p : Prop} {K : AV → Mem → Prop} {o : Out} (hp : p) (h : o.sat K) : ∀ n, (needN p n o).sat K
  | 0 => h
  | n + 1 => ⟨hp, needN_sat hp h n⟩
set_option maxHeartbeats 4000000 in
theorem run_RChi (T : Int → Nat → Int) (U : List Int → Int) (f : Nat → Int) : callA (cRChi T U) false 5000 Tryd.f19 [L25 (tab 25 f)] (memG gdA) = needN (bd_chi = bd_chi) 25 (.done (L25 (chiRV T U (tab 25 f))) Mem.empty) := by kernel_rfl

def bitT (x : Int) (i : Nat) : Int := bI ((bv x).getLsbD i)
theorem cok_RChi : COk (cRChi bitT ofI) := cokL (by simp) (fun p hp => by
  have : p ∈ [p_place, p_Bits, p_Of] := hp
  simp at this
  rcases this with rfl | rfl | rfl
  · exact ps_place
  · exact ps_Bits
  · exact ps_Of) (fun p hp => by
  simp at hp
  subst hp
  exact lp_chi)

theorem chi_bit (a b c : Bool) : iteI (cmpI .eql (bI b) 0) (binI .rem .i64 (binI .add .i64 (bI a) (bI c)) 2) (bI a) = bI (a ^^ (c && !b)) := by cases a <;> cases b <;> cases c <;> rfl
theorem chi_of (p q r : Int) : ofI (chiBits p q r) = xo p (binI .andNot .u64 r q) := by
  show _ = binI .xor .u64 p _
  rw [xor_nb, andNot_nb, bv_nb, ← of_bits]
  congr 1
  refine tab_congr fun j hj => ?_
  have hi := hj
  rw [bitsL, bitsL, bitsL, tab_get hi, tab_get hi, tab_get hi, chi_bit, BitVec.getLsbD_xor, BitVec.getLsbD_and, BitVec.getLsbD_not]
  simp [hi]
theorem chi_ofV (p q r : Int) : chiV (bitT p) (bitT q) (bitT r) = chiBits p q r := tab_congr fun j hj => by rw [bitsL, bitsL, bitsL, tab_get hj, tab_get hj, tab_get hj]; rfl
theorem chiR_eq (es : List Int) : chiRV bitT ofI es = chiL es := tab_congr fun i _ => by rw [chi_ofV]; exact chi_of _ _ _
def p_RChi := (19, gsum [.l .u64 25] (fun _ => []) T_Chi)
theorem ps_RChi : PSOk (cfg [] []) p_RChi.1 p_RChi.2 :=
  (psok_e (C := cRChi bitT ofI) cok_RChi rfl rfl fn_RChi rfl 5000 (fun fs => [L25 (tab 25 (fs 0))]) (fun _ => rfl) fun fs _ _ =>
    ⟨_, run_RChi bitT ofI (fs 0), by
      refine needN_sat rfl ?_ 25
      exact sat_same (by rw [chiR_eq]; rfl)⟩).cast rfl rfl rfl

end Go.Proofs.YtpnikmkijedmbaaDoor
