import Derived.Test.YtbgneeokjhepcaaGreatDoorZ7
namespace Go.Proofs.YtbgneeokjhepcaaGreatDoor
open Go Go.Ax
set_option linter.unusedSectionVars false
section
variable [JZ]
theorem may_sn {a n : Int} {h : Nat → Int} {f : Bool} {A B : List Int} : T_May (snl a h n f A B) = mayN (selK kinds a) (selK blocks a) n f A B := by cases f <;> rfl
theorem snap_sn {a n : Int} {h : Nat → Int} {f : Bool} {A B : List Int} : T_RSnap (snl a h n f A B) = spB a (tab 25 h) n f A B := by cases f <;> rfl
def rnT (L : List Int) : Int := IntKind.i64.wrap (at0 (partQ L 6 1))
def rnF (L : List Int) : Bool := cmpI .eql (at0 (partQ L 5 1)) 1
def rnH (L : List Int) (i : Nat) : Int := leAt (partQ (partQ L 7 200) 0 (partQ L 7 200).length) (8 * i)
def rnQ (L : List Int) : List Int := partQ L 207 (L.length - 207)
def rnE (L : List Int) : Nat := (tgE (rnQ L)).toNat
def rnQ2 (L : List Int) : List Int := partQ L (207 + rnE L) (L.length - 207 - rnE L)
def rnN (L : List Int) : List Int := if selK kinds (algN L) = 4 then tgM (rnQ L) else []
def rnS (L : List Int) : List Int := if selK kinds (algN L) = 4 then tgM (rnQ2 L) else []
def GoodN (L : List Int) : Prop := 2 ≤ selK kinds (algN L) ∧ 207 ≤ L.length ∧ at0 (partQ L 5 1) < 2 ∧ (selK kinds (algN L) = 4 → tgB (rnQ L) = true ∧ tgB (rnQ2 L) = true) ∧ mayN (selK kinds (algN L)) (selK blocks (algN L)) (rnT L) (rnF L) (rnN L) (rnS L) = true ∧ spB (algN L) (tab 25 (rnH L)) (rnT L) (rnF L) (rnN L) (rnS L) = L
instance (L : List Int) : Decidable (GoodN L) := by unfold GoodN; infer_instance
theorem kinds_le {a : Int} : selK kinds a ≤ 4 := by
  unfold selK
  split
  · rename_i hc
    rw [Bool.and_eq_true, decide_eq_true_iff, decide_eq_true_iff] at hc
    have : a = 0 ∨ a = 1 ∨ a = 2 ∨ a = 3 ∨ a = 4 ∨ a = 5 ∨ a = 6 ∨ a = 7 ∨ a = 8 ∨ a = 9 ∨ a = 10 ∨ a = 11 ∨ a = 12 ∨ a = 13 ∨ a = 14 := by omega
    rcases this with r | r | r | r | r | r | r | r | r | r | r | r | r | r | r <;> subst r <;> decide
  · omega
def IsN (c : Option (List Int)) (M : List Int) : Prop := match c with | none => M = [] | some X => X = M ∧ M ≠ []
theorem vl_is {c : Option (List Int)} {M : List Int} (h : IsN c M) : vlN c = M ∧ allQ (rdN c) := by
  cases c with
  | none => exact ⟨h.symm, trivial⟩
  | some X => obtain ⟨rfl, _⟩ := h; exact ⟨partQ_all _, by show 0 + X.length ≤ X.length ∧ True; exact ⟨by omega, trivial⟩⟩
theorem endN_sat {K : Kx} {L : List Int} {N S : Option (List Int)} {js : List Nat} (_hL : L.length ≤ 4000) (hN : IsN N (rnN L)) (hS : IsN S (rnS L)) (lN : (rnN L).length ≤ 4000) (lS : (rnS L).length ≤ 4000) (h1 : 2 ≤ selK kinds (algN L)) (h2 : 207 ≤ L.length) (h3 : at0 (partQ L 5 1) < 2) (h4 : selK kinds (algN L) = 4 → tgB (rnQ L) = true ∧ tgB (rnQ2 L) = true)
    (hg : GoodN L → (okN (algN L) (rnH L) (rnT L) (rnF L) N S js).sat K) (hn : ¬ GoodN L → errN.sat K) : (endN T_May T_RSnap E_same L.length L (algN L) (rnH L) (rnT L) (rnF L) N S js).sat K := by
  obtain ⟨v1, r1⟩ := vl_is hN
  obtain ⟨v2, r2⟩ := vl_is hS
  unfold endN
  rw [v1, v2, may_sn, snap_sn]
  refine needR_sat r1 (needR_sat r2 (needR_sat ⟨lN, lS, trivial⟩ ⟨fun c => ⟨fun _ => needR_sat ⟨by omega, by omega, trivial⟩ ⟨fun d => hn fun g => ?_, fun d => hg ⟨h1, h2, h3, h4, c, ?_⟩⟩, fun d => absurd d (by decide)⟩, fun c => ⟨fun d => absurd d (by decide), fun _ => hn fun g => ?_⟩⟩))
  · rw [partQ_all, partQ_all, g.2.2.2.2.2] at d
    simp [E_same] at d
  · rw [partQ_all, partQ_all] at d
    simpa [E_same] using d
  · rw [g.2.2.2.2.1] at c; cases c
theorem tg_facts {M : List Int} (h8 : ∀ y ∈ M, okI .u8 y) (h : tgB M = true) : 0 < tgE M ∧ tgE M ≤ M.length ∧ (tgM M).length ≤ M.length := by
  unfold tgB at h
  simp only [Bool.and_eq_true, decide_eq_true_eq] at h
  obtain ⟨h1, h2, h3⟩ := h
  obtain ⟨g1, g2, g3, g4, g5, g6, g7⟩ := gl_facts h8 h1
  refine ⟨?_, ?_, ?_⟩
  · show 0 < glS M + glN M / 8; omega
  · show glS M + glN M / 8 ≤ _; omega
  · unfold tgM; simp; omega
theorem part_mem {L : List Int} {o n : Nat} {P : Int → Prop} (h : ∀ x ∈ L, P x) : ∀ x ∈ partQ L o n, P x := fun x hx => by
  rw [partQ_eq] at hx
  exact h x (List.mem_of_mem_drop (List.mem_of_mem_take hx))
theorem tx_sat {K : Kx} {L : List Int} {o k : Nat} {X : Option (List Int) → Nat → Nat → R2} (hL : L.length ≤ 4000) (h8 : ∀ x ∈ L, okI .u8 x) (hok : o + k ≤ L.length) (hn : tgB (partQ L o k) = false → errN.sat K)
    (hx : tgB (partQ L o k) = true → tgE (partQ L o k) ≤ (k : Int) → (tgM (partQ L o k)).length ≤ L.length → ∀ c, IsN c (tgM (partQ L o k)) → (X c (o + (tgE (partQ L o k)).toNat) (k - (tgE (partQ L o k)).toNat)).sat K) : (txT tgB tgE tgM L o k X).sat K := by
  have hb : bigLen = 100000000000000 := rfl
  have hl : (partQ L o k).length = k := partQ_len hok
  have arm : tgB (partQ L o k) = true → ∀ c, IsN c (tgM (partQ L o k)) → (txArm L o k X true (tgE (partQ L o k)) c).sat K := fun hB c hc => by
    obtain ⟨t1, t2, t3⟩ := tg_facts (part_mem h8) hB
    rw [hl] at t2 t3
    refine ⟨fun d => absurd d (by decide), fun _ => ⟨fun d => ?_, fun _ => needR_sat (tk9_ok t1 t2 hok (by omega)) ?_⟩⟩
    · have := (leqB d).1 t2; cases this
    · rw [Int.toNat_natCast]
      exact hx hB t2 (by omega) c hc
  unfold txT
  refine needR_sat ⟨hok, by rw [hl]; omega, trivial⟩ ⟨fun hB => ⟨fun c => arm hB none (show tgM (partQ L o k) = [] from of_decide_eq_true c), fun c => arm hB _ ⟨rfl, of_decide_eq_false c⟩⟩, fun hB => ⟨fun _ => hn hB, fun d => absurd d (by decide)⟩⟩
theorem n7_eq {n : Nat} : n7 n = n - 7 := by unfold n7; rw [n6_eq]; omega
theorem n207_eq {n : Nat} : n207 n = n - 207 := by unfold n207; rw [n7_eq]; omega
theorem treeS_sat {K : Kx} {L : List Int} (hL : L.length ≤ 4000) (h8 : ∀ x ∈ L, okI .u8 x) (hg : GoodN L → ∀ N S, IsN N (rnN L) → IsN S (rnS L) → (okN (algN L) (rnH L) (rnT L) (rnF L) N S (jsN N S)).sat K) (hn : ¬ GoodN L → errN.sat K) :
    (treeS (selK kinds) (fun L i => leAt L (8 * i)) tgB tgE tgM T_May T_RSnap E_same L.length L (algN L) (partQ L 5 1) (partQ L 6 1) (partQ L 7 200)).sat K := by
  have hb : bigLen = 100000000000000 := rfl
  unfold treeS
  refine ⟨fun c1 => ⟨fun c2 => ?_, fun c2 => ?_⟩, fun c1 => hn fun g => ?_⟩
  · have := (leqB c2).1 kinds_le; cases this
  · have k1 : selK kinds (algN L) ≥ 2 := (geqP c1).2 rfl
    have hA : 1 ≤ algN L := by
      have := (selK_sponge k1).1; omega
    have h5 : 5 ≤ L.length := by
      unfold algN at hA
      split at hA
      · rename_i q; exact q.1
      · omega
    have short : L.length < 207 → errN.sat K := fun h => hn fun g => by have := g.2.1; omega
    have e5 : n5 L.length = L.length - 5 := n5_eq
    have e6 : n6 L.length = L.length - 6 := n6_eq
    have e7 : n7 L.length = L.length - 7 := n7_eq
    have e207 : n207 L.length = L.length - 207 := n207_eq
    refine needR_sat ⟨by omega, by omega, by omega, trivial⟩ ⟨fun c3 => short ?_, fun c3 => ?_⟩
    · have : ¬ (1 : Int) ≤ (n5 L.length : Int) := fun h => by have := (leqB c3).1 h; cases this
      omega
    have c3 : (1 : Int) ≤ (n5 L.length : Int) := (leqB c3).2 rfl
    have t1 := tk9_ok (q := 1) (L := L) (o := 5) (n := n5 L.length) (by omega) c3 (by omega) (by omega)
    have l1 : (partQ L 5 1).length = 1 := partQ_len (by omega)
    refine needR_sat t1 (needR_sat (ixP_ok (by omega)) ⟨fun c5 => hn fun g => ?_, fun c5 => needR_sat (ixP_ok (by omega)) ⟨fun c6 => short ?_, fun c6 => ?_⟩⟩)
    · have := g.2.2.1
      have c5 : (!decide (at0 (partQ L 5 1) < 2)) = true := c5
      rw [decide_eq_true this] at c5; cases c5
    · have : ¬ (1 : Int) ≤ (n6 L.length : Int) := fun h => by have := (leqB c6).1 h; cases this
      omega
    have c5 : at0 (partQ L 5 1) < 2 := by
      have c5 : (!decide (at0 (partQ L 5 1) < 2)) = false := c5
      simpa using c5
    have c6 : (1 : Int) ≤ (n6 L.length : Int) := (leqB c6).2 rfl
    have t2 := tk9_ok (q := 1) (L := L) (o := 6) (n := n6 L.length) (by omega) c6 (by omega) (by omega)
    have l2 : (partQ L 6 1).length = 1 := partQ_len (by omega)
    refine needR_sat t2 (needR_sat (ixP_ok (by omega)) ⟨fun c7 => short ?_, fun c7 => ?_⟩)
    · have : ¬ (200 : Int) ≤ (n7 L.length : Int) := fun h => by have := (leqB c7).1 h; cases this
      omega
    have c7 : (200 : Int) ≤ (n7 L.length : Int) := (leqB c7).2 rfl
    have t3 := tk9_ok (q := 200) (L := L) (o := 7) (n := n7 L.length) (by omega) c7 (by omega) (by omega)
    have l3 : (partQ L 7 200).length = 200 := partQ_len (by omega)
    have hl : 207 ≤ L.length := by omega
    refine needR_sat t3 (needR_sat ⟨by omega, by rw [partQ_all]; exact l3, trivial⟩ ⟨fun c8 => ?_, fun c8 => ?_⟩)
    · have k4 : selK kinds (algN L) = 4 := eqlT c8
      rw [e207]
      refine tx_sat (o := 207) hL h8 (by omega) (fun h => hn fun g => ?_) fun hB hE hM N hN => ?_
      · have h : tgB (rnQ L) = false := h
        rw [(g.2.2.2.1 k4).1] at h; cases h
      have hE : tgE (rnQ L) ≤ ((L.length - 207 : Nat) : Int) := hE
      refine tx_sat (o := 207 + rnE L) hL h8 (by show 207 + rnE L + (L.length - 207 - rnE L) ≤ _; unfold rnE; omega) (fun h => hn fun g => ?_) fun hB2 hE2 hM2 S hS => ?_
      · have h : tgB (rnQ2 L) = false := h
        rw [(g.2.2.2.1 k4).2] at h; cases h
      have eN : rnN L = tgM (rnQ L) := if_pos k4
      have eS : rnS L = tgM (rnQ2 L) := if_pos k4
      have iN : IsN N (rnN L) := by rw [eN]; exact hN
      have iS : IsN S (rnS L) := by rw [eS]; exact hS
      have hM : (tgM (rnQ L)).length ≤ L.length := hM
      have hM2 : (tgM (rnQ2 L)).length ≤ L.length := hM2
      exact endN_sat hL iN iS (by rw [eN]; omega) (by rw [eS]; omega) k1 hl c5 (fun _ => ⟨hB, hB2⟩) (fun g => hg g N S iN iS) hn
    · have k4 : ¬ selK kinds (algN L) = 4 := eqlF c8
      have eN : rnN L = [] := if_neg k4
      have eS : rnS L = [] := if_neg k4
      exact endN_sat (N := none) (S := none) hL eN eS (by rw [eN]; simp) (by rw [eS]; simp) k1 hl c5 (fun h => absurd h k4) (fun g => hg g none none eN eS) hn
  · have := (geqP c1).1 (show selK kinds (algN L) ≥ 2 from g.1)
    cases this
def resN (a : Int) (h : Nat → Int) (t : Int) (f : Bool) (N S : List Int) : RT :=
  .br (decide (N = [])) (.br (decide (S = [])) (.one (.t [.g ([.i .i64 a] ++ (tab 25 h).map (.i .u64) ++ [.i .i64 t, .b f, .e, .e]), .c (.i .i64 0)])) (.one (.t [.g ([.i .i64 a] ++ (tab 25 h).map (.i .u64) ++ [.i .i64 t, .b f, .e, .s 5 .u8 S]), .c (.i .i64 0)])))
    (.br (decide (S = [])) (.one (.t [.g ([.i .i64 a] ++ (tab 25 h).map (.i .u64) ++ [.i .i64 t, .b f, .s 5 .u8 N, .e]), .c (.i .i64 0)])) (.one (.t [.g ([.i .i64 a] ++ (tab 25 h).map (.i .u64) ++ [.i .i64 t, .b f, .s 5 .u8 N, .s 5 .u8 S]), .c (.i .i64 0)])))
def qUSV (G : List Int → Bool) (a : List Int → Int) (h : List Int → Nat → Int) (t : List Int → Int) (f : List Int → Bool) (N S : List Int → List Int) := (7, fsum [.one (.s .u8)] (fun l => [(l.getD 0 []).length ≤ 4000]) fun l => .br (G (l.getD 0 [])) (resN (a (l.getD 0 [])) (h (l.getD 0 [])) (t (l.getD 0 [])) (f (l.getD 0 [])) (N (l.getD 0 [])) (S (l.getD 0 []))) (.one errZ))
theorem lens_n {h : Nat → Int} {x y : RC} {p q : Nat} {a t : Int} {f : Bool} (hx : lenOk x p) (hy : lenOk y q) : All2 lenOk (RS.cells (.t [.g ([.i .i64 a] ++ (tab 25 h).map (.i .u64) ++ [.i .i64 t, .b f, x, y]), .c (.i .i64 0)])) (List.replicate 28 0 ++ [p, q, 0]) := by
  have e : RS.cells (.t [.g ([.i .i64 a] ++ (tab 25 h).map (.i .u64) ++ [.i .i64 t, .b f, x, y]), .c (.i .i64 0)]) = [.i .i64 a] ++ (tab 25 h).map (.i .u64) ++ [.i .i64 t, .b f] ++ [x, y, .i .i64 0] := by simp [RS.cells, RP.cells]
  rw [e]
  refine All2.append ?_ ⟨hx, hy, trivial, trivial⟩
  have h1 := lenOk_is (k := .u64) (tab 25 h)
  rw [show (tab 25 h).length = 25 by simp [tab]] at h1
  rw [show List.replicate 28 (0 : Nat) = ([0] ++ List.replicate 25 0) ++ [0, 0] from rfl]
  exact ((show All2 lenOk [RC.i .i64 a] [0] from ⟨trivial, trivial⟩).append h1).append ⟨trivial, trivial, trivial⟩
theorem okN_met {a : Int} {h : Nat → Int} {t : Int} {f : Bool} {N S : List Int} {c d : Option (List Int)} (hc : IsN c N) (hd : IsN d S) : (okN a h t f c d (jsN c d)).sat (RS.met (resN a h t f N S).now) := by
  unfold okN resN
  cases c with
  | none =>
    have hc : N = [] := hc
    rw [br_true (decide_eq_true hc)]
    cases d with
    | none =>
      have hd : S = [] := hd
      rw [br_true (decide_eq_true hd)]
      exact ⟨rfl, lens_n trivial trivial, List.nodup_nil⟩
    | some Y =>
      obtain ⟨rfl, hd⟩ := hd
      rw [br_false (decide_eq_false hd)]
      exact ⟨rfl, lens_n trivial rfl, by simp [jsN]⟩
  | some X =>
    obtain ⟨rfl, hc⟩ := hc
    rw [br_false (decide_eq_false hc)]
    cases d with
    | none =>
      have hd : S = [] := hd
      rw [br_true (decide_eq_true hd)]
      exact ⟨rfl, lens_n rfl trivial, by simp [jsN]⟩
    | some Y =>
      obtain ⟨rfl, hd⟩ := hd
      rw [br_false (decide_eq_false hd)]
      exact ⟨rfl, lens_n rfl rfl, by simp [jsN]⟩
theorem errN_met : errN.sat (RS.met errZ) := by
  refine ⟨by decide, rfl, ?_, List.nodup_nil⟩
  exact ⟨trivial, trivial, trivial, trivial, trivial, trivial, trivial, trivial, trivial, trivial, trivial, trivial, trivial, trivial, trivial, trivial, trivial, trivial, trivial, trivial, trivial, trivial, trivial, trivial, trivial, trivial, trivial, trivial, trivial, trivial, trivial, trivial⟩
theorem qs_USponge : FOk cE (qUSV (fun L => decide (GoodN L)) algN rnH rnT rnF rnN rnS).1 (qUSV (fun L => decide (GoodN L)) algN rnH rnT rnF rnN rnS).2 :=
  upFX (fok_view (C := cUS algN (selK kinds) (fun L i => leAt L (8 * i)) tgB tgE tgM T_May T_RSnap E_same) (shs := [.one (.s .u8)]) (T := fun l => .br (decide (GoodN (l.getD 0 []))) (resN (algN (l.getD 0 [])) (rnH (l.getD 0 [])) (rnT (l.getD 0 [])) (rnF (l.getD 0 [])) (rnN (l.getD 0 [])) (rnS (l.getD 0 []))) (.one errZ)) (conds := fun l => [(l.getD 0 []).length ≤ 4000])
    (cokX mixedM lvl0 (memc ⟨Tryz.func21, by kernel_rfl⟩ fn_Rd) (mem1 ps_AKind)
      (memc qs_UAlg (memc (FOk.widen qs_BC1 rfl (fun _ h => by cases h)) (memc (FOk.widen qs_Of200 rfl (fun _ h => by cases h)) (memc (FOk.widen qs_GetText rfl (fun _ h => by cases h)) (memc qs_SSponge (mem1 (FOk.widen qs_Equal rfl (fun _ h => by cases h))))))))
      (mem1 dok_caught) mem0) rfl rfl ⟨Tryz.func7, by kernel_rfl⟩ (by kernel_rfl) 1000 fun Ms hok hp =>
    ⟨_, run_USponge _ _ _ _ _ _ _ _ _ (Ms 0).length (Ms 0), by
      have hL : (Ms 0).length ≤ 4000 := hp.1
      obtain ⟨⟨_, h8⟩, _⟩ := hok
      refine ⟨by omega, ?_⟩
      rw [partQ_all]
      show R2.sat (RS.met (RT.br (decide (GoodN (Ms 0))) (resN (algN (Ms 0)) (rnH (Ms 0)) (rnT (Ms 0)) (rnF (Ms 0)) (rnN (Ms 0)) (rnS (Ms 0))) (.one errZ)).now) _
      refine treeS_sat hL h8 (fun g N S hN hS => ?_) (fun g => ?_)
      · rw [br_true (decide_eq_true g)]; exact okN_met hN hS
      · rw [br_false (decide_eq_false g)]; exact errN_met⟩)
end
end Go.Proofs.YtbgneeokjhepcaaGreatDoor

namespace Go.Proofs.YtbgneeokjhepcaaGreatDoor
open Go Go.Ax
set_option linter.unusedSectionVars false
def okOut : Out → Bool
  | .br c t f => match c with | true => okOut t | false => okOut f
  | .done (.one (.lb b)) _ => b
  | .done (.one (.sb b)) _ => b
  | .both a b => okOut a && okOut b
  | _ => false
theorem okOut_sat : ∀ {o : Out}, okOut o = true → o.sat fun v _ => v = .one (.sb true) ∨ v = .one (.lb true)
  | .br c t f, h => by
    cases c with
    | true => exact ⟨fun _ => okOut_sat h, fun e => by cases e⟩
    | false => exact ⟨fun e => (by cases e), fun _ => okOut_sat h⟩
  | .both a b, h => by
    have h : (okOut a && okOut b) = true := h
    rw [Bool.and_eq_true] at h
    exact ⟨okOut_sat h.1, okOut_sat h.2⟩
  | .done (.one (.lb b)) _, h => by
    have h : b = true := h
    subst h; exact .inr rfl
  | .done (.one (.sb b)) _, h => by
    have h : b = true := h
    subst h; exact .inl rfl
  | .done (.one .any) _, h => by cases h
  | .bad _, h => by cases h
  | .need _ _, h => by cases h
theorem sat_imp {K K' : AV → Mem → Prop} (hk : ∀ v m, K v m → K' v m) : ∀ {o : Out}, o.sat K → o.sat K'
  | .bad _, h => h
  | .need _ _, h => ⟨h.1, sat_imp hk h.2⟩
  | .br _ _ _, h => ⟨fun e => sat_imp hk (h.1 e), fun e => sat_imp hk (h.2 e)⟩
  | .both _ _, h => ⟨sat_imp hk h.1, sat_imp hk h.2⟩
  | .done _ _, h => hk _ _ h
section
variable [JZ]
noncomputable abbrev cW21 : Cfg :=
  cfgP Tryz.prog JW.J gdE true 0 [] [] [] [qUBV (fun L => decide (GoodB L)) rdA rdH rdF rdRest, qUSV (fun L => decide (GoodN L)) algN rnH rnT rnF rnN rnS, qSSnV T_May T_RSnap] [] [] []
theorem run_wakes21 : okOut (callA cW21 false 1000 Tryz.f5 [] (memG gdE)) = true := by kernel_rfl
theorem cokW21 : COk cW21 := cokP mixedM lvl0 mem0 mem0 (memc qs_UBlock (memc qs_USponge (mem1 qs_SSponge))) mem0 mem0
def p_wakes21 := (5, gsum [] (fun _ => []) fun _ => .p (.b true))
theorem ps_wakes21 : PSOk cE p_wakes21.1 p_wakes21.2 :=
  upPP (psok_e (C := cW21) cokW21 rfl rfl ⟨Tryz.func5, by kernel_rfl⟩ (by kernel_rfl) 1000 (fun _ => []) (fun _ => rfl) fun fs _ _ => ⟨_, rfl, sat_imp (fun v _ h => by
    rcases h with rfl | rfl
    · exact sat_sym rfl rfl
    · exact sat_sym rfl rfl) (okOut_sat run_wakes21)⟩)
end
end Go.Proofs.YtbgneeokjhepcaaGreatDoor

namespace Go.Proofs.YtbgneeokjhepcaaGreatDoor
open Go Go.Ax
set_option linter.unusedSectionVars false
section
variable [JZ]
noncomputable abbrev cIs (G H : List Int → Bool) (a b : List Int → Int) (h k : List Int → Nat → Int) (t : List Int → Int) (f g : List Int → Bool) (R N S : List Int → List Int) : Cfg :=
  cfgP Tryz.prog JW.J gdE false 0 [] [] [] [qUBV G a h f R, qUSV H b k t g N S] [] [] []
def IsT_0 (S : List Int → List Int) (n : Nat) (L : List Int) : R2 :=
  .br (decide (S ([partQ L (0 : Nat) n].getD (0 : Nat) []) = [])) (.br (cmpI .eql (0 : Int) (0 : Int)) (.leaf (.p (.c (.b true))) [(0 : Nat)] []) (.leaf (.p (.c (.b (cmpI .eql (0 : Int) (0 : Int))))) [(0 : Nat)] [])) (.br (cmpI .eql (0 : Int) (0 : Int)) (.leaf (.p (.c (.b true))) [(0 : Nat)] []) (.leaf (.p (.c (.b (cmpI .eql (0 : Int) (0 : Int))))) [(0 : Nat)] []))
def IsT_1 (H : List Int → Bool) (N : List Int → List Int) (S : List Int → List Int) (n : Nat) (L : List Int) : R2 :=
  .need ((0 : Nat) + n ≤ L.length) (.need (([partQ L (0 : Nat) n].getD (0 : Nat) []).length ≤ (4000 : Nat)) (.br (H ([partQ L (0 : Nat) n].getD (0 : Nat) [])) (.br (decide (N ([partQ L (0 : Nat) n].getD (0 : Nat) []) = [])) (IsT_0 S n L) (IsT_0 S n L)) (.br (cmpI .eql (0 : Int) (0 : Int)) (.leaf (.p (.c (.b true))) [(0 : Nat)] []) (.leaf (.p (.c (.b (cmpI .eql (7 : Int) (0 : Int))))) [(0 : Nat)] []))))
def IsT_2 (S : List Int → List Int) (n : Nat) (L : List Int) : R2 :=
  .br (decide (S ([partQ L (0 : Nat) n].getD (0 : Nat) []) = [])) (.br (cmpI .eql (7 : Int) (0 : Int)) (.leaf (.p (.c (.b true))) [(0 : Nat)] []) (.leaf (.p (.c (.b (cmpI .eql (0 : Int) (0 : Int))))) [(0 : Nat)] [])) (.br (cmpI .eql (7 : Int) (0 : Int)) (.leaf (.p (.c (.b true))) [(0 : Nat)] []) (.leaf (.p (.c (.b (cmpI .eql (0 : Int) (0 : Int))))) [(0 : Nat)] []))
theorem run_Is (G H : List Int → Bool) (a b : List Int → Int) (h k : List Int → Nat → Int) (t : List Int → Int) (f g : List Int → Bool) (R N S : List Int → List Int) (n : Nat) (L : List Int) : (callA (cIs G H a b h k t f g R N S) true 1000 Tryz.f14 [.one (.slr 1 2 0 n)] (memX gdE [.rseq .u8 L 2, .gone])).view =
    .need ((0 : Nat) + n ≤ L.length) (.need (([partQ L (0 : Nat) n].getD (0 : Nat) []).length ≤ nat_lit 100000000000000) (.br (G ([partQ L (0 : Nat) n].getD (0 : Nat) [])) (.br (decide (R ([partQ L (0 : Nat) n].getD (0 : Nat) []) = [])) (IsT_1 H N S n L) (IsT_1 H N S n L)) (.need ((0 : Nat) + n ≤ L.length) (.need (([partQ L (0 : Nat) n].getD (0 : Nat) []).length ≤ (4000 : Nat)) (.br (H ([partQ L (0 : Nat) n].getD (0 : Nat) [])) (.br (decide (N ([partQ L (0 : Nat) n].getD (0 : Nat) []) = [])) (IsT_2 S n L) (IsT_2 S n L)) (.br (cmpI .eql (7 : Int) (0 : Int)) (.leaf (.p (.c (.b true))) [(0 : Nat)] []) (.leaf (.p (.c (.b (cmpI .eql (7 : Int) (0 : Int))))) [(0 : Nat)] []))))))) := by kernel_rfl
theorem is_sat {G H : List Int → Bool} {a b : List Int → Int} {h k : List Int → Nat → Int} {t : List Int → Int} {f g : List Int → Bool} {R N S : List Int → List Int} {L : List Int} (hL : L.length ≤ 4000) : ∃ o, (callA (cIs G H a b h k t f g R N S) true 1000 Tryz.f14 [.one (.slr 1 2 0 L.length)] (memX gdE [.rseq .u8 L 2, .gone])).view = o ∧ o.sat (RS.met (.p (.c (.b (G L || H L))))) := by
  refine ⟨_, run_Is G H a b h k t f g R N S L.length L, ?_⟩
  have e1 : cmpI .eql (0 : Int) 0 = true := rfl
  have e2 : cmpI .eql (7 : Int) 0 = false := rfl
  have tt : ∀ {v : Bool}, v = true → (R2.leaf (.p (.c (.b true))) [(0 : Nat)] []).sat (RS.met (.p (.c (.b v)))) := fun {v} e => by rw [e]; exact ⟨rfl, ⟨trivial, trivial⟩, List.nodup_nil⟩
  have ff : ∀ {v : Bool}, v = false → (R2.leaf (.p (.c (.b false))) [(0 : Nat)] []).sat (RS.met (.p (.c (.b v)))) := fun {v} e => by rw [e]; exact ⟨rfl, ⟨trivial, trivial⟩, List.nodup_nil⟩
  simp only [partQ_all, List.getD_cons_zero]
  refine ⟨by omega, by omega, fun hG => ?_, fun hG => ⟨by omega, by omega, fun hH => ?_, fun hH => ?_⟩⟩
  · have v : (G L || H L) = true := by rw [hG]; rfl
    have t0 : (IsT_0 S L.length L).sat (RS.met (.p (.c (.b (G L || H L))))) := ⟨fun _ => ⟨fun _ => tt v, fun _ => tt v⟩, fun _ => ⟨fun _ => tt v, fun _ => tt v⟩⟩
    have t1 : (IsT_1 H N S L.length L).sat (RS.met (.p (.c (.b (G L || H L))))) := ⟨by omega, by (try simp only [partQ_all, List.getD_cons_zero]); omega, fun _ => ⟨fun _ => t0, fun _ => t0⟩, fun _ => ⟨fun _ => tt v, fun d => absurd d (by decide)⟩⟩
    exact ⟨fun _ => t1, fun _ => t1⟩
  · have v : (G L || H L) = true := by rw [hH, Bool.or_true]
    have t2 : (IsT_2 S L.length L).sat (RS.met (.p (.c (.b (G L || H L))))) := ⟨fun _ => ⟨fun _ => tt v, fun _ => tt v⟩, fun _ => ⟨fun _ => tt v, fun _ => tt v⟩⟩
    exact ⟨fun _ => t2, fun _ => t2⟩
  · have v : (G L || H L) = false := by rw [hG, hH]; rfl
    exact ⟨fun d => absurd d (by decide), fun _ => ff v⟩
def qIsV (I : List Int → Bool) := (14, fsum [.one (.s .u8)] (fun l => [(l.getD 0 []).length ≤ 4000]) fun l => .one (.p (.c (.b (I (l.getD 0 []))))))
def IsG (L : List Int) : Bool := decide (GoodB L) || decide (GoodN L)
theorem qs_UIs : FOk cE (qIsV IsG).1 (qIsV IsG).2 :=
  upFP (fok_view (C := cIs (fun L => decide (GoodB L)) (fun L => decide (GoodN L)) rdA algN rdH rnH rnT rdF rnF rdRest rnN rnS) (shs := [.one (.s .u8)]) (T := fun l => .one (.p (.c (.b (IsG (l.getD 0 [])))))) (conds := fun l => [(l.getD 0 []).length ≤ 4000])
    (cokP mixedM lvl0 mem0 mem0 (memc qs_UBlock (mem1 qs_USponge)) mem0 mem0) rfl rfl ⟨Tryz.func14, by kernel_rfl⟩ (by kernel_rfl) 1000 fun Ms hok hp => is_sat (L := Ms 0) hp.1)
def KT : AV → Mem → Prop := fun v _ => v = .one (.sb true) ∨ v = .one (.lb true)
theorem kt {m : Mem} : (Out.done (.one (.lb true)) m).sat KT := .inr rfl
end
end Go.Proofs.YtbgneeokjhepcaaGreatDoor

namespace Go.Proofs.YtbgneeokjhepcaaGreatDoor
open Go Go.Ax
set_option linter.unusedSectionVars false
section
variable [JZ]
theorem partQ_at {A B C L : List Int} {o n : Nat} (h : L = A ++ (B ++ C)) (ho : A.length = o) (hn : B.length = n) : partQ L o n = B := by
  subst h ho hn
  rw [partQ_eq, List.drop_left, List.take_left]
theorem headN_len {a : Int} {f : Bool} : (headN a f).length = 6 := rfl
theorem alg_head {a : Int} {f : Bool} {S : List Int} (h1 : 1 ≤ a) (h2 : a ≤ 14) : algN (headN a f ++ S) = a := by
  have e : headN a f ++ S = 67 :: 82 :: 66 :: 49 :: a :: (if f then 1 else 0) :: S := by
    show [67, 82, 66, 49, IntKind.u8.wrap a, if f then 1 else 0] ++ S = _
    rw [u8_in (by omega) (by omega)]; rfl
  rw [e]
  unfold algN
  have g : ∀ {x : Int} {T : List Int}, (67 :: 82 :: 66 :: 49 :: a :: x :: T : List Int).getD 4 0 = a := rfl
  rw [g, if_pos]
  exact ⟨by simp only [List.length_cons]; omega, rfl, h1, h2⟩
theorem flag_head {a : Int} {f : Bool} {S : List Int} : partQ (headN a f ++ S) 5 1 = [if f then 1 else 0] := partQ_at (A := [67, 82, 66, 49, IntKind.u8.wrap a]) (C := S) rfl rfl rfl
theorem word_big {x : Int} (hx : okI .u64 x) {A S : List Int} {o : Nat} (ho : A.length = o) : wordAt (A ++ (bigN x 8 ++ S)) o = x := by
  have hx' := hx
  obtain ⟨h1, h2⟩ := of_oku hx
  obtain ⟨n, rfl⟩ := Int.eq_ofNat_of_zero_le h1
  refine wordAt_bytes (by omega) fun i hi => ?_
  subst ho
  rw [List.getD_eq_getElem?_getD, List.getElem?_append_right (by omega), show A.length + i - A.length = i by omega, bigN8 hx']
  have : i = 0 ∨ i = 1 ∨ i = 2 ∨ i = 3 ∨ i = 4 ∨ i = 5 ∨ i = 6 ∨ i = 7 := by omega
  rcases this with rfl | rfl | rfl | rfl | rfl | rfl | rfl | rfl <;> rfl
theorem byte_hi {x : Int} (hx : okI .u64 x) (h : x < 4294967296) : bigN x 8 = List.replicate 4 0 ++ bigN x 4 := by
  obtain ⟨h1, h2⟩ := of_oku hx
  rw [bigN4, bigN8 hx]
  obtain ⟨n, rfl⟩ := Int.eq_ofNat_of_zero_le h1
  have z : ∀ k, 4 ≤ k → k < 8 → byteAt (n : Int) k = 0 := fun k k1 k2 => by
    rw [byteAt_eq (by omega)]
    have : n / 256 ^ k = 0 := Nat.div_eq_of_lt (Nat.lt_of_lt_of_le (show n < 256 ^ 4 by omega) (Nat.pow_le_pow_right (by omega) k1))
    rw [this]; rfl
  rw [z 7 (by omega) (by omega), z 6 (by omega) (by omega), z 5 (by omega) (by omega), z 4 (by omega) (by omega)]
  rfl
theorem rdW_at {x s : Int} {A S L : List Int} {o : Nat} (hs : s = 64 ∨ s = 128) (hx : okI .u64 x) (h4 : s = 64 → x < 4294967296) (ho : A.length = o) (hL : L = A ++ (bigN x (s / 16).toNat ++ S)) : rdW s L o = x := by
  unfold rdW word9
  rw [partQ_at (B := bigN x (s / 16).toNat) (n := (s / 16).toNat) hL ho bigN_len]
  have e : List.replicate (8 - (s / 16).toNat) 0 ++ bigN x (s / 16).toNat = bigN x 8 := by
    rcases hs with r | r <;> subst r
    · exact (byte_hi hx (h4 rfl)).symm
    · show List.replicate 0 0 ++ bigN x 8 = _
      rw [List.replicate_zero, List.nil_append]
  rw [e, show partQ (bigN x 8) 0 8 = bigN x 8 from partQ_at (A := []) (C := []) (by simp) rfl bigN_len]
  have := word_big hx (A := []) (S := []) (o := 0) rfl
  rwa [List.nil_append, List.append_nil] at this
theorem rdWs_at {s : Int} {L : List Int} (hs : s = 64 ∨ s = 128) : ∀ (ws : List Int) {A S : List Int} {o : Nat}, (∀ x ∈ ws, okI .u64 x ∧ (s = 64 → x < 4294967296)) → A.length = o → L = A ++ (ws.flatMap (fun x => bigN x (s / 16).toNat) ++ S) → rdWs s L ws.length o = ws
  | [], _, _, _, _, _, _ => rfl
  | x :: ws, A, S, o, hw, ho, hL => by
    have hL' : L = A ++ (bigN x (s / 16).toNat ++ (ws.flatMap (fun x => bigN x (s / 16).toNat) ++ S)) := by rw [hL, List.flatMap_cons, List.append_assoc]
    show rdW s L o :: rdWs s L ws.length (o + (s / 16).toNat) = _
    rw [rdW_at hs (hw x (by simp)).1 (hw x (by simp)).2 ho hL', rdWs_at hs ws (A := A ++ bigN x (s / 16).toNat) (S := S) (fun y hy => hw y (by simp [hy])) (by rw [List.length_append, bigN_len, ho]) (by rw [hL', List.append_assoc])]
theorem snapB_eq {a : Int} {h : Nat → Int} {f : Bool} {L : List Int} {s q : Int} : snapB a h f L s q = headN a f ++ (bigN (h 8) 8 ++ (bigN (h 9) 8 ++ ((tab 8 h).flatMap (fun x => bigN x q.toNat) ++ (L ++ List.replicate (s - L.length).toNat 0)))) := by
  unfold snapB
  simp only [List.flatMap_append, List.flatMap_cons, List.flatMap_nil, List.append_assoc, List.nil_append, tab, show List.range 8 = [0, 1, 2, 3, 4, 5, 6, 7] from rfl, List.map_cons, List.map_nil]
theorem words_len {ws : List Int} {q : Nat} : (ws.flatMap (fun x => bigN x q)).length = ws.length * q := by
  induction ws with
  | nil => simp
  | cons x ws ih => rw [List.flatMap_cons, List.length_append, bigN_len, ih, List.length_cons, Nat.succ_mul]; omega
theorem snapB_len2 {a : Int} {h : Nat → Int} {f : Bool} {L : List Int} {s : Int} (hs : s = 64 ∨ s = 128) (hL : (L.length : Int) ≤ s) : ((snapB a h f L s (s / 16)).length : Int) = 22 + 8 * (s / 16) + s := by
  rw [snapB_eq]
  simp only [List.length_append, headN_len, bigN_len, words_len, List.length_replicate]
  have : (tab 8 h).length = 8 := rfl
  rw [this]
  rcases hs with r | r <;> subst r
  · show (((6 + (8 + (8 + (8 * 4 + (L.length + (64 - (L.length : Int)).toNat)))) : Nat)) : Int) = 22 + 8 * 4 + 64
    omega
  · show (((6 + (8 + (8 + (8 * 8 + (L.length + (128 - (L.length : Int)).toNat)))) : Nat)) : Int) = 22 + 8 * 8 + 128
    omega
theorem okBlk_mod {a : Int} {h : Nat → Int} {n : Nat} (h1 : okBlk a h n = true) : 1 ≤ a ∧ a ≤ 6 ∧ (sizeB a = 64 ∨ sizeB a = 128) ∧ (n : Int) = modV (valC (h 8) (h 9)) (sizeB a) ∧ (n : Int) < sizeB a := by
  obtain ⟨p1, p2, -, -, p5⟩ := okBlk_iff.1 h1
  have hs : sizeB a = 64 ∨ sizeB a = 128 := by unfold sizeB; split <;> omega
  exact ⟨p1, p2, hs, p5, by rw [p5]; exact (modV_lt hs).2⟩
theorem bl_cut {a b : Int} {h u : Nat → Int} {f g : Bool} {L M S T : List Int} (h1 : okBlk a h L.length = true) (h2 : okBlk b u M.length = true) (e : snapB a h f L (sizeB a) (sizeB a / 16) ++ S = snapB b u g M (sizeB b) (sizeB b / 16) ++ T) : S = T := by
  obtain ⟨p1, p2, p3, p4, p5⟩ := okBlk_mod h1
  obtain ⟨q1, q2, q3, q4, q5⟩ := okBlk_mod h2
  have e' := e
  rw [snapB_eq, snapB_eq] at e'
  simp only [List.append_assoc] at e'
  obtain ⟨r, -, -⟩ := head_inj (by omega) (by omega) e'
  subst r
  have l1 := snapB_len2 (a := a) (h := h) (f := f) (L := L) p3 (by omega)
  have l2 := snapB_len2 (a := a) (h := u) (f := g) (L := M) p3 (by omega)
  exact (List.append_inj e (by omega)).2
theorem rdC_at {a x y : Int} {f : Bool} {S L : List Int} (hx : okI .u64 x) (hy : okI .u64 y) (hL : L = headN a f ++ (bigN x 8 ++ (bigN y 8 ++ S))) : rdC L 0 = x ∧ rdC L 8 = y := by
  have e : partQ L 6 16 = bigN x 8 ++ bigN y 8 := partQ_at (A := headN a f) (C := S) (by rw [hL, List.append_assoc]) headN_len (by simp [bigN_len])
  unfold rdC
  rw [e, partQ_all]
  refine ⟨?_, ?_⟩
  · have := word_big hx (A := []) (S := bigN y 8) (o := 0) rfl
    rwa [List.nil_append] at this
  · have := word_big hy (A := bigN x 8) (S := []) (o := 8) bigN_len
    rwa [List.append_nil] at this
theorem snapB_tabB {a : Int} {h u : Nat → Int} {f : Bool} {L : List Int} {s q : Int} (e : tab 8 h = tab 8 u) (e2 : [h 8, h 9] = [u 8, u 9]) : snapB a h f L s q = snapB a u f L s q := by
  simp only [List.cons.injEq, and_true] at e2
  rw [snapB_eq, snapB_eq, e, e2.1, e2.2]
theorem good_snapB {a : Int} {h : Nat → Int} {f : Bool} {L : List Int} (hh : ∀ i, i < 10 → okI .u64 (h i)) (h1 : okBlk a h L.length = true) :
    let X := snapB a h f L (sizeB a) (sizeB a / 16)
    rdA X = a ∧ rdF X = f ∧ rdRest X = L ∧ (∀ i, i < 10 → rdH X i = h i) ∧ GoodB X := by
  obtain ⟨p1, p2, p3, p4, p5⟩ := okBlk_mod h1
  intro X
  have hX : X = headN a f ++ (bigN (h 8) 8 ++ (bigN (h 9) 8 ++ ((tab 8 h).flatMap (fun x => bigN x (sizeB a / 16).toNat) ++ (L ++ List.replicate (sizeB a - L.length).toNat 0)))) := snapB_eq
  have hlen : (X.length : Int) = 22 + 8 * (sizeB a / 16) + sizeB a := snapB_len2 p3 (by omega)
  have eA : algN X = a := by rw [hX]; exact alg_head p1 (by omega)
  have k1 : selK kinds a = 1 := kinds_one.2 ⟨p1, p2⟩
  have eS : rdS X = sizeB a := by unfold rdS; rw [eA]; exact (size_kind k1).1
  have eFl : partQ X 5 1 = [if f then 1 else 0] := by rw [hX]; exact flag_head
  have eF : rdF X = f := by unfold rdF; rw [eFl]; cases f <;> rfl
  have eF2 : sel (partQ X 5 1) 0 < 2 := by rw [eFl]; cases f <;> decide
  obtain ⟨c1, c2⟩ := rdC_at (hh 8 (by omega)) (hh 9 (by omega)) hX
  have eM : rdM X = L.length := by
    unfold rdM; rw [c1, c2, eS, ← p4]; omega
  have eR : rdR X = L ++ List.replicate (sizeB a - L.length).toNat 0 := by
    unfold rdR
    rw [eS]
    refine partQ_at (A := headN a f ++ (bigN (h 8) 8 ++ (bigN (h 9) 8 ++ (tab 8 h).flatMap (fun x => bigN x (sizeB a / 16).toNat)))) (C := []) (by rw [hX]; simp only [List.append_assoc, List.append_nil]) ?_ ?_
    · simp only [List.length_append, headN_len, bigN_len, words_len]
      show 6 + (8 + (8 + 8 * (sizeB a / 16).toNat)) = _
      omega
    · rw [List.length_append, List.length_replicate]; omega
  have eRest : rdRest X = L := by
    unfold rdRest; rw [eR, eM]
    exact partQ_at (A := []) rfl rfl rfl
  obtain ⟨-, -, o3, -, -⟩ := okBlk_iff.1 h1
  have eW : rdWs (rdS X) X 8 22 = tab 8 h := by
    rw [eS]
    refine rdWs_at p3 (tab 8 h) (A := headN a f ++ (bigN (h 8) 8 ++ bigN (h 9) 8)) (S := L ++ List.replicate (sizeB a - L.length).toNat 0) (fun x hx => ?_) (by simp [headN_len, bigN_len]) (by rw [hX]; simp only [List.append_assoc])
    obtain ⟨i, hi, rfl⟩ := List.mem_map.1 hx
    rw [List.mem_range] at hi
    refine ⟨hh i (by omega), fun h64 => ?_⟩
    have ha3 : a < 3 := by
      unfold sizeB at h64; split at h64
      · assumption
      · omega
    have s1 := smallH_iff.1 (o3 ha3)
    match i, hi with
    | 0, _ => exact s1.1
    | 1, _ => exact s1.2.1
    | 2, _ => exact s1.2.2.1
    | 3, _ => exact s1.2.2.2.1
    | 4, _ => exact s1.2.2.2.2.1
    | 5, _ => exact s1.2.2.2.2.2.1
    | 6, _ => exact s1.2.2.2.2.2.2.1
    | 7, _ => exact s1.2.2.2.2.2.2.2
  have eH : ∀ i, i < 10 → rdH X i = h i := fun i hi => by
    unfold rdH
    rw [eW, c1, c2]
    match i, hi with
    | 0, _ => rfl
    | 1, _ => rfl
    | 2, _ => rfl
    | 3, _ => rfl
    | 4, _ => rfl
    | 5, _ => rfl
    | 6, _ => rfl
    | 7, _ => rfl
    | 8, _ => rfl
    | 9, _ => rfl
  refine ⟨eA, eF, eRest, eH, ?_⟩
  have t8 : tab 8 (rdH X) = tab 8 h := by
    show [rdH X 0, rdH X 1, rdH X 2, rdH X 3, rdH X 4, rdH X 5, rdH X 6, rdH X 7] = [h 0, h 1, h 2, h 3, h 4, h 5, h 6, h 7]
    rw [eH 0 (by omega), eH 1 (by omega), eH 2 (by omega), eH 3 (by omega), eH 4 (by omega), eH 5 (by omega), eH 6 (by omega), eH 7 (by omega)]
  have t2 : [rdH X 8, rdH X 9] = [h 8, h 9] := by rw [eH 8 (by omega), eH 9 (by omega)]
  refine ⟨by unfold rdA; rw [eA]; exact k1, by rw [eS]; omega, eF2, ?_, ?_⟩
  · rw [eRest]
    unfold rdA; rw [eA]
    unfold okBlk smallH at h1 ⊢
    rw [eH 0 (by omega), eH 1 (by omega), eH 2 (by omega), eH 3 (by omega), eH 4 (by omega), eH 5 (by omega), eH 6 (by omega), eH 7 (by omega), eH 8 (by omega), eH 9 (by omega)]
    exact h1
  · have eA' : rdA X = a := eA
    rw [eA', eF, eRest, snapB_tabB t8 t2]
end
end Go.Proofs.YtbgneeokjhepcaaGreatDoor

namespace Go.Proofs.YtbgneeokjhepcaaGreatDoor
open Go Go.Ax
set_option linter.unusedSectionVars false
section
variable [JZ]
theorem goodN_form {y : List Int} (h : GoodN y) : ∃ a f S, 7 ≤ a ∧ a < 15 ∧ y = headN a f ++ S := by
  obtain ⟨h1, -, -, -, -, h6⟩ := h
  obtain ⟨a1, a2, -⟩ := selK_sponge h1
  unfold spB at h6
  simp only [List.append_assoc] at h6
  exact ⟨_, _, _, a1, a2, h6.symm⟩
theorem goodB_form {y : List Int} (h : GoodB y) : 1 ≤ rdA y ∧ rdA y ≤ 6 ∧ okBlk (rdA y) (rdH y) (rdRest y).length = true ∧ snapB (rdA y) (rdH y) (rdF y) (rdRest y) (sizeB (rdA y)) (sizeB (rdA y) / 16) = y := by
  obtain ⟨h1, -, -, h4, h5⟩ := h
  obtain ⟨a1, a2⟩ := kinds_one.1 h1
  exact ⟨a1, a2, h4, h5⟩
theorem notN_head {y S R : List Int} {a : Int} {f : Bool} (e : y ++ S = headN a f ++ R) (h1 : 0 ≤ a) (h2 : a ≤ 6) : ¬ GoodN y := fun h => by
  obtain ⟨b, g, T, b1, b2, rfl⟩ := goodN_form h
  rw [List.append_assoc] at e
  obtain ⟨r, -, -⟩ := head_inj (by omega) (by omega) e
  omega
theorem isG_false {y : List Int} (h1 : ¬ GoodB y) (h2 : ¬ GoodN y) : IsG y = false := by
  unfold IsG; rw [decide_eq_false h1, decide_eq_false h2]; rfl
theorem cutB {a : Int} {h : Nat → Int} {f : Bool} {L S T y : List Int} (h1 : okBlk a h L.length = true) (e : y ++ S = snapB a h f L (sizeB a) (sizeB a / 16) ++ T) (hST : S ≠ T) : IsG y = false := by
  refine isG_false (fun hg => ?_) ?_
  · obtain ⟨-, -, g4, g5⟩ := goodB_form hg
    rw [← g5] at e
    exact hST (bl_cut g4 h1 e)
  · obtain ⟨p1, p2, -⟩ := okBlk_mod h1
    rw [snapB_eq, List.append_assoc] at e
    exact notN_head e (by omega) p2
end
theorem okE_at {Ms : Nat → List Int} : ∀ {l : List SE} {i j : Nat} {sh : SE}, okE Ms i l → l[j]? = some sh → sh.ok (Ms (i + j))
  | s :: l, i, 0, sh, h, e => by
    rw [List.getElem?_cons_zero] at e
    cases e; exact h.1
  | s :: l, i, j + 1, sh, h, e => by
    rw [List.getElem?_cons_succ] at e
    have := okE_at h.2 e
    rw [show i + (j + 1) = i + 1 + j by omega]
    exact this
def w64At (l : List SE) (j : Nat) : Bool := match l[j]? with
  | some (.w .u64) => true
  | _ => false
theorem okE_w {Ms : Nat → List Int} {l : List SE} {j : Nat} (h : okE Ms 0 l) (hj : w64At l j = true) : okI .u64 ((Ms j).getD 0 0) := by
  unfold w64At at hj
  split at hj
  · rename_i e
    have := okE_at h e
    rw [Nat.zero_add] at this
    exact getD_ok this.2 (by rw [this.1]; omega)
  · cases hj
section
variable {P : Program} {J : Judg P} {gd : List (Nat × List SV)} {lv : Nat} {fns : List (Nat × Func)} {ps : PSs} {fs : FSs} {xo : List Nat}
def cfgO (P : Program) (J : Judg P) (gd : List (Nat × List SV)) (lv : Nat) (fns : List (Nat × Func)) (ps : PSs) (fs : FSs) (xo : List Nat) : Cfg := { cfgP P J gd false lv [] fns ps fs [] [] [] [] with xo := xo }
theorem cokO (hm : P.follows .mixedOrders = true) (hl : J.lvl ≤ lv) (h1 : ∀ p ∈ fns, FnOk P p.1 p.2) (h2 : ∀ p ∈ ps, PSOk (cP0 P J gd) p.1 p.2) (h3 : ∀ p ∈ fs, FOk (cP0 P J gd) p.1 p.2) : COk (cfgO P J gd lv fns ps fs xo) :=
  ⟨hm, hl, (fun p hp => by cases hp), (fun p hp => by cases hp), h1, fun p hp => (h2 p hp).cast rfl rfl rfl, (fun p hp => by cases hp), (fun p hp => by cases hp), (fun p hp => by cases hp),
    (fun p hp => by cases hp), (fun p hp => by cases hp), fun p hp => FOk.cast (C := cP0 P J gd) (C' := cfgO P J gd lv fns ps fs xo) rfl rfl rfl (h3 p hp), (fun p hp => by cases hp)⟩
end
end Go.Proofs.YtbgneeokjhepcaaGreatDoor

namespace Go.Proofs.YtbgneeokjhepcaaGreatDoor
open Go Go.Ax
set_option linter.unusedSectionVars false
section
variable [JZ]
def unF : Out := .done (.one (.lb false)) Mem.empty
def unT : Out := .done (.one (.lb true)) Mem.empty
def unMore (I : List Int → Bool) (Y Z : List Int) (c : Int) : Out :=
  .br (decide (Y.length = 0)) (needsP [True, lenP ([] ++ [c].take 1), 0 + ([] ++ [c].take 1).length ≤ ([] ++ [c].take 1).length, (partQ ([] ++ [c].take 1) 0 ([] ++ [c].take 1).length).length ≤ 4000] (.done (.one (.sb !I (partQ ([] ++ [c].take 1) 0 ([] ++ [c].take 1).length))) Mem.empty))
    (.need (0 + Y.length ≤ Y.length) (needsP [True, lenP ([] ++ Z), ([] ++ Z).length = ([] ++ Z).length, True, lenP (([] ++ Z) ++ [c].take 1), 0 + (([] ++ Z) ++ [c].take 1).length ≤ (([] ++ Z) ++ [c].take 1).length, (partQ (([] ++ Z) ++ [c].take 1) 0 (([] ++ Z) ++ [c].take 1).length).length ≤ 4000] (.done (.one (.sb !I (partQ (([] ++ Z) ++ [c].take 1) 0 (([] ++ Z) ++ [c].take 1).length))) Mem.empty)))
def un1 (Y : List Int) : Int := binI .sub .i64 (Y.length : Int) 1
def unLess (I : List Int → Bool) (Y : List Int) (c : Int) : Out :=
  needsP [(0 : Int) ≤ 0, 0 ≤ un1 Y, un1 Y ≤ (Y.length : Int), 0 + (un1 Y).toNat ≤ Y.length, (partQ Y 0 (un1 Y).toNat).length ≤ 4000] (.br (!I (partQ Y 0 (un1 Y).toNat)) (.both (.both (unMore I Y (partQ Y 0 Y.length) c) (unMore I Y (partQ Y 0 Y.length) c)) (unMore I Y (partQ Y 0 Y.length) c)) unF)
def unAlg (I : List Int → Bool) (A : List Int → Int) (x : Int) (Y : List Int) (c : Int) : Out := .need (0 + Y.length ≤ Y.length) (.br (cmpI .eql (A (partQ Y 0 Y.length)) x) (unLess I Y c) unF)
def unReg (I : List Int → Bool) (A : List Int → Int) (x : Int) (Y : List Int) (c : Int) (es : Int) (ns : List Prop) (E : Bool) : Out :=
  .br (cmpI .gtr (Y.length : Int) 0) (.br (cmpI .eql es 0) (.both (needsP ns (.br E (.both (unAlg I A x Y c) (unAlg I A x Y c)) unF)) (needsP ns (.br E (.both (unAlg I A x Y c) (unAlg I A x Y c)) unF))) unF) unF
def unN (N : List Int) : List Int := partQ N 0 N.length
theorem more_sat {Y : List Int} {c : Int} (hcut : ∀ y S T, y ++ S = Y ++ T → S ≠ T → IsG y = false) (l1 : 0 < Y.length) (l2 : Y.length ≤ 3000) : (unMore IsG Y (partQ Y 0 Y.length) c).sat KT := by
  have key : IsG (([] ++ Y) ++ [c].take 1) = false := hcut _ [] [c] (by rw [List.append_nil, List.nil_append]; rfl) (by simp)
  rw [partQ_all]
  have lW : (([] ++ Y) ++ [c].take 1).length = Y.length + 1 := by simp
  refine ⟨fun d => ?_, fun _ => ⟨by omega, trivial, ?_, rfl, trivial, ?_, by omega, ?_, .inl ?_⟩⟩
  · have d : Y.length = 0 := of_decide_eq_true d
    omega
  · exact lenP_of (by rw [List.nil_append]; omega)
  · exact lenP_of (by rw [lW]; omega)
  · rw [partQ_all, lW]; omega
  · rw [partQ_all, key]; rfl
theorem less_sat {Y : List Int} {c : Int} (hcut : ∀ y S T, y ++ S = Y ++ T → S ≠ T → IsG y = false) (l1 : 0 < Y.length) (l2 : Y.length ≤ 3000) : (unLess IsG Y c).sat KT := by
  have hm := more_sat (c := c) hcut l1 l2
  have e1 : un1 Y = Y.length - 1 := sub64 (by omega) (by omega)
  have key : IsG (partQ Y 0 (un1 Y).toNat) = false := hcut _ (Y.drop (un1 Y).toNat) [] (by rw [List.append_nil, partQ_eq, List.drop_zero, List.take_append_drop]) (fun e => by
    have := congrArg List.length e
    rw [List.length_drop, e1, List.length_nil] at this
    omega)
  have lp : (partQ Y 0 (un1 Y).toNat).length ≤ 4000 := by
    rw [partQ_len (by rw [e1]; omega), e1]; omega
  refine ⟨by omega, by rw [e1]; omega, by rw [e1]; omega, by rw [e1]; omega, lp, fun _ => ⟨⟨hm, hm⟩, hm⟩, fun d => ?_⟩
  rw [key] at d; cases d
theorem reg_sat {I : List Int → Bool} {A : List Int → Int} {x c : Int} {Y : List Int} {ns : List Prop} {E : Bool} (h0 : 0 < Y.length) (hE : E = true) (hA : A Y = x) (hl : (unLess I Y c).sat KT) (hn : ∀ o : Out, o.sat KT → (needsP ns o).sat KT) : (unReg I A x Y c 0 ns E).sat KT := by
  have tA : (unAlg I A x Y c).sat KT := by
    unfold unAlg
    rw [partQ_all]
    exact ⟨by omega, fun _ => hl, fun d => absurd hA (eqlF d)⟩
  have tB : (needsP ns (.br E (.both (unAlg I A x Y c) (unAlg I A x Y c)) unF)).sat KT := hn _ ⟨fun _ => ⟨tA, tA⟩, fun d => by rw [hE] at d; cases d⟩
  refine ⟨fun _ => ⟨fun _ => ⟨tB, tB⟩, fun d => absurd d (by decide)⟩, fun d => ?_⟩
  have d : ¬ (Y.length : Int) > 0 := of_decide_eq_false d
  omega
end
end Go.Proofs.YtbgneeokjhepcaaGreatDoor

namespace Go.Proofs.YtbgneeokjhepcaaGreatDoor
open Go Go.Ax
set_option linter.unusedSectionVars false
section
variable [JZ]
noncomputable abbrev cUK (I G : List Int → Bool) (A a : List Int → Int) (h : List Int → Nat → Int) (f : List Int → Bool) (R : List Int → List Int) (U Mr E : List (List Int) → Bool) (Sp : List (List Int) → List Int) : Cfg :=
  cfgO Tryz.prog JW.J gdE 0 [] [p_wakes21] [qIsV I, pAlgV A, qUBV G a h f R, qOkV 18 U, qSBkV Mr Sp, qS11V E] [7]
def ukTree (I G : List Int → Bool) (A a : List Int → Int) (h : List Int → Nat → Int) (f : List Int → Bool) (R : List Int → List Int) (E : List (List Int) → Bool) (x : Int) (u : Nat → Int) (n : Nat) (g : Bool) (L : List Int) (c : Int) (Y : List Int) : Out :=
  needsP [0 + Y.length ≤ Y.length, (partQ Y 0 Y.length).length ≤ bigLen] (.br (G (partQ Y 0 Y.length))
    (.br (decide (R (partQ Y 0 Y.length) = []))
      (unReg I A x Y c 0 [0 + n ≤ L.length] (E (bkl (a (partQ Y 0 Y.length)) (h (partQ Y 0 Y.length)) [] (f (partQ Y 0 Y.length)) ++ bkl x u (partQ L 0 n) g)))
      (unReg I A x Y c 0 [0 + (R (partQ Y 0 Y.length)).length ≤ (R (partQ Y 0 Y.length)).length, 0 + n ≤ L.length] (E (bkl (a (partQ Y 0 Y.length)) (h (partQ Y 0 Y.length)) (unN (R (partQ Y 0 Y.length))) (f (partQ Y 0 Y.length)) ++ bkl x u (partQ L 0 n) g))))
    (unReg I A x Y c 7 [0 + n ≤ L.length] (E (bkl 0 (fun _ => 0) [] false ++ bkl x u (partQ L 0 n) g))))
theorem run_UnsnapBlocks (I G : List Int → Bool) (A a : List Int → Int) (h : List Int → Nat → Int) (f : List Int → Bool) (R : List Int → List Int) (U Mr E : List (List Int) → Bool) (Sp : List (List Int) → List Int) (x : Int) (u : Nat → Int) (n : Nat) (g : Bool) (L : List Int) (c : Int) : callA (cUK I G A a h f R U Mr E Sp) false 1000 Tryz.f4 [bkA x u n g, .one (.si .u8 c)] (memX gdE (List.replicate 22 .gone ++ [.rseq .u8 L 24, .gone, .gone, .gone, .gone, .gone])) =
    .br (cmpI .gtr (n : Int) 300) unT (.need (0 + n ≤ L.length) (.br (!U (bkl x u (partQ L 0 n) g)) unT
      (.need (0 + n ≤ L.length) (.br (Mr (bkl x u (partQ L 0 n) g)) (ukTree I G A a h f R E x u n g L c (Sp (bkl x u (partQ L 0 n) g)))
        (.need (([] : List Int).length ≤ bigLen) (.br (G []) (.br (decide (R [] = [])) unF unF) unF)))))) := by kernel_rfl
end
end Go.Proofs.YtbgneeokjhepcaaGreatDoor

namespace Go.Proofs.YtbgneeokjhepcaaGreatDoor
open Go Go.Ax
set_option linter.unusedSectionVars false
section
variable [JZ]
theorem s11_bkl {a b : Int} {h u : Nat → Int} {f g : Bool} {A B : List Int} : T_S11 (bkl a h A f ++ bkl b u B g) = sameK a b f g (tab 8 h) (tab 8 u) [h 8, h 9] [u 8, u 9] A B := by
  cases f <;> cases g <;> rfl
noncomputable abbrev cUKL : Cfg := cUK IsG (fun L => decide (GoodB L)) algN rdA rdH rdF rdRest T_OkBlk T_OkBlk T_S11 T_RBlk
theorem cokUK : COk cUKL := cokO mixedM lvl0 mem0 (mem1 ps_wakes21) (memc qs_UIs (memc qs_UAlg (memc qs_UBlock (memc qs_R11Right (memc qs_SBlock (mem1 qs_S11))))))
theorem blocks_sat {x c : Int} {u : Nat → Int} {g : Bool} {L : List Int} (hu : ∀ i, i < 10 → okI .u64 (u i)) : ∃ o, callA cUKL false 1000 Tryz.f4 [bkA x u L.length g, .one (.si .u8 c)] (memX gdE (List.replicate 22 .gone ++ [.rseq .u8 L 24, .gone, .gone, .gone, .gone, .gone])) = o ∧ o.sat KT := by
  refine ⟨_, run_UnsnapBlocks _ _ _ _ _ _ _ _ _ _ _ x u L.length g L c, ?_⟩
  rw [partQ_all, ok_bkl, rb_bkl]
  refine ⟨fun _ => kt, fun _ => ⟨by omega, fun _ => kt, fun hU => ⟨by omega, fun h1 => ?_, fun no => by rw [no] at hU; cases hU⟩⟩⟩
  obtain ⟨p1, p2, p3, p4, p5⟩ := okBlk_mod h1
  have hlen := snapB_len2 (a := x) (h := u) (f := g) (L := L) p3 (by omega)
  obtain ⟨eA, eF, eR, eH, gB⟩ := good_snapB (f := g) hu h1
  have hl := less_sat (Y := snapB x u g L (sizeB x) (sizeB x / 16)) (c := c) (fun y S T e hST => cutB h1 e hST) (by omega) (by omega)
  generalize hY : snapB x u g L (sizeB x) (sizeB x / 16) = Y at *
  unfold ukTree unN
  rw [partQ_all, eA, eF, eR, partQ_all]
  have t8 : tab 8 (rdH Y) = tab 8 u := by
    show [rdH Y 0, rdH Y 1, rdH Y 2, rdH Y 3, rdH Y 4, rdH Y 5, rdH Y 6, rdH Y 7] = [u 0, u 1, u 2, u 3, u 4, u 5, u 6, u 7]
    rw [eH 0 (by omega), eH 1 (by omega), eH 2 (by omega), eH 3 (by omega), eH 4 (by omega), eH 5 (by omega), eH 6 (by omega), eH 7 (by omega)]
  have key : T_S11 (bkl x (rdH Y) L g ++ bkl x u L g) = true := by
    rw [s11_bkl, t8, eH 8 (by omega), eH 9 (by omega)]
    exact decide_eq_true ⟨rfl, rfl, rfl, rfl, rfl⟩
  have eA' : algN Y = x := eA
  refine ⟨by omega, Nat.le_trans (show Y.length ≤ 1000 by omega) (by decide), fun _ => ⟨fun r1 => ?_, fun _ => ?_⟩, fun d => absurd gB (of_decide_eq_false d)⟩
  · have r1 := of_decide_eq_true r1
    exact reg_sat (by omega) (by rw [r1] at key; rw [r1]; exact key) eA' hl fun o ho => ⟨by omega, ho⟩
  · exact reg_sat (by omega) key eA' hl fun o ho => ⟨by omega, by omega, ho⟩
end
set_option maxRecDepth 100000 in
theorem law_UnsnapBlocks {H : Type} {enc : TypeId × Value → H} {W : World} {base : Nat} {args : Array Value} {ds : List (DataW H)} {ps : List MemPlace} (hT : DataW.TrodAll enc Tryz.prog W 0 (fun _ => true) true Tryz.f4.params.toList args.toList ds ps)
    (hval : ∀ (j : Nat) t v, Tryz.f4.params[j]? = some t → args[j]? = some v → Value.okWide Tryz.prog W .any base t v) (hgd : GD gdE W.heap.size W) :
    CallsL (loneJ Tryz.prog) 4 args W fun e w' => e = .returned (.bool true) ∧ RowKit.Below W.heap.size W w' := by
  letI : JZ := aloneZ
  have h := law_s (C := cUKL) cokUK rfl rfl (fn := Tryz.f4) ⟨Tryz.func4, by kernel_rfl⟩ (shs := [shB, .one (.w .u8)]) (by kernel_rfl) 1000
    (fun Ms hok => blocks_sat (x := (Ms 0).getD 0 0) (u := fun i => (Ms (1 + i)).getD 0 0) (g := (Ms 12).getD 0 0 != 0) (L := Ms 11) (c := (Ms 13).getD 0 0)
      (fun i hi => okE_w hok ((by decide : ∀ i, i < 10 → w64At (entsQ [shB, .one (.w .u8)]) (1 + i) = true) i hi))) hT hval hgd
  exact h
end Go.Proofs.YtbgneeokjhepcaaGreatDoor

namespace Go.Proofs.YtbgneeokjhepcaaGreatDoor
open Go Go.Ax
set_option linter.unusedSectionVars false
theorem lit_entries : litCells Tryz.prog 9 128 (Rows.laid_cribble_alg_entries : DataW Unit) = some ((litCells Tryz.prog 9 128 (Rows.laid_cribble_alg_entries : DataW Unit)).getD []) := by kernel_rfl
theorem gd_entries {W : World} {x : String × DataW Unit} {rest : List (String × DataW Unit)} (h : laidMet Tryz.prog (x :: ("cribble/alg.entries", Rows.laid_cribble_alg_entries) :: rest) W) : GD gdE W.heap.size W :=
  gd_of_lit (g := 0) (t := 128) (by kernel_rfl) (by kernel_rfl) lit_entries h.tail
end Go.Proofs.YtbgneeokjhepcaaGreatDoor

namespace Go.Proofs.YtbgneeokjhepcaaGreatDoor
open Go Go.Ax
set_option linter.unusedSectionVars false
theorem gd_entriesB {W : World} (h : laidMetH Tryz.prog [("unicode/utf8.acceptRanges", Rows.laid_unicode_utf8_acceptRanges), ("cribble/alg.entries", Rows.laid_cribble_alg_entries), ("bytes.ErrTooLarge", Rows.laid_bytes_ErrTooLarge), ("unicode/utf8.first", Rows.laid_unicode_utf8_first)] W) : GD gdE W.heap.size W := by
  rw [MakeChecks.laidMetH_plain _ _ _ (by kernel_rfl)] at h
  exact gd_entries h
end Go.Proofs.YtbgneeokjhepcaaGreatDoor
