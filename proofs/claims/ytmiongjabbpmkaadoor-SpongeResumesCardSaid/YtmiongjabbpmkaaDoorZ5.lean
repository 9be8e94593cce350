import Derived.Test.YtmiongjabbpmkaaDoorZ4
import Derived.Test.YtmiongjabbpmkaaDoorRows
import Derived.Laws.Externs
namespace Go.Proofs.YtmiongjabbpmkaaDoor
open Go Go.Ax
theorem fok_view {C : Cfg} (hC : COk C) {G : List (Nat × List SV)} (hG : C.gd = G) (hgl : C.gl = glFrom 0 G) {g : Nat} {fn : Func} (hfn : FnOk C.P g fn) (hb : fn.body.isSome = true) {shs : List SH} {conds : List (List Int) → List Cnd} {T : List (List Int) → RT} (n : Nat)
    (hrun : ∀ Ms : Nat → List Int, okE Ms 0 (entsQ shs) → allP (conds (dataE Ms 0 (entsQ shs))) → ∃ r, (callA C true n fn (groupQ shs (argsE G.length Ms 0 (entsQ shs))) (memX G (blksE G.length Ms 0 (entsQ shs)))).view = r ∧ r.sat (RS.met (T (dataE Ms 0 (entsQ shs))).now)) : FOk C g (fsum shs conds T) :=
  fok_run hC hG hgl hfn hb n fun Ms h1 h2 => let ⟨_, e, h⟩ := hrun Ms h1 h2; ⟨_, rfl, view_sat (e ▸ h)⟩
theorem met_s {t : TypeId} {k : IntKind} {L : List Int} {n j : Nat} (h : n = L.length) : RS.met (.p (.c (.s t k L))) (.p (.c (.s t k L))) [n] [j] := ⟨rfl, ⟨h, trivial⟩, by simp⟩
abbrev PSs := List (Nat × (List AV → Mem → Option (List Cnd × AV)))
abbrev FSs := List (Nat × (List AV → Mem → Option (List Cnd × RT)))
abbrev LQs := List (Nat × Code × (TM → Mem → Option ((AE → TM → Mem → Out) → Out)))
abbrev EXs := List (Nat × (List AV → Option (List Cnd × AV)))
abbrev SPs := List (Nat × Nat × List Int)
theorem FOk.cast {C C' : Cfg} {g : Nat} {F : List AV → Mem → Option (List Cnd × RT)} (hP : C'.sig = C.sig) (_ : C'.gl = C.gl) (hgd : C'.gd = C.gd) (h : FOk C g F) : FOk C' g F := h.widen hP (by rw [hgd]; exact fun _ h => h)
theorem LoopQ.cast {C C' : Cfg} {bd : Code} {F : TM → Mem → Option ((AE → TM → Mem → Out) → Out)} (hP : C'.sig = C.sig) (hgl : C'.gl = C.gl) (hgd : C'.gd = C.gd) (h : LoopQ C bd F) : LoopQ C' bd F := by
  intro K k tm mem o hF hs B w0 env a w Q hr hk
  exact sig_loop hP (h K k tm mem o hF hs B w0 env a w Q (hr.cast hgl.symm hgd.symm) fun e tm' mem' env' a' w' q1 q2 q3 => hk e tm' mem' env' a' w' q1 (q2.cast hgl hgd) q3)
def cfgP (P : Program) (J : Judg P) (gd : List (Nat × List SV)) (lit : Bool) (lv : Nat) (sg : List Nat) (fns : List (Nat × Func)) (ps : PSs) (fs : FSs) (lq : LQs) (sp : SPs) (ex : EXs) (al : List Nat := []) : Cfg := { P := P, J := J, fns := fns, gl := glFrom 0 gd, gd := gd, ps := ps, fs := fs, lq := lq, sp := sp, ex := ex, lvl := lv, lit := lit, sg := sg, al := al }
abbrev cP0 (P : Program) (J : Judg P) (gd : List (Nat × List SV)) : Cfg := cfgP P J gd false 2 [] [] [] [] [] [] []
def ExP (P : Program) (p : Nat × (List AV → Option (List Cnd × AV))) : Prop := ExOk P p.1 p.2 ∧ ∀ l vals, NS l P (callFunc p.1 vals)
section
variable {P : Program} {J : Judg P} {gd : List (Nat × List SV)} {lit : Bool} {lv : Nat} {sg : List Nat} {fns : List (Nat × Func)} {ps : PSs} {fs : FSs} {lq : LQs} {sp : SPs} {ex : EXs} {al : List Nat}
theorem cokP (hm : P.follows .mixedOrders = true) (hl : J.lvl ≤ lv) (h1 : ∀ p ∈ fns, FnOk P p.1 p.2) (h2 : ∀ p ∈ ps, PSOk (cP0 P J gd) p.1 p.2) (h3 : ∀ p ∈ fs, FOk (cP0 P J gd) p.1 p.2) (h4 : ∀ p ∈ lq, LoopQ (cP0 P J gd) p.2.1 p.2.2) (h5 : ∀ p ∈ ex, ExP P p) : COk (cfgP P J gd lit lv sg fns ps fs lq sp ex al) :=
  ⟨hm, hl, fun p hp vals => (h5 p hp).2 _ vals, (fun p hp => by cases hp), h1, fun p hp => (h2 p hp).cast rfl rfl rfl, (fun p hp => by cases hp), (fun p hp => by cases hp), fun p hp => (h5 p hp).1, (fun p hp => by cases hp), (fun p hp => LoopQ.cast (C := cP0 P J gd) (C' := cfgP P J gd lit lv sg fns ps fs lq sp ex al) rfl rfl rfl (h4 p hp)), fun p hp => FOk.cast (C := cP0 P J gd) (C' := cfgP P J gd lit lv sg fns ps fs lq sp ex al) rfl rfl rfl (h3 p hp), (fun p hp => by cases hp), (fun p hp => by cases hp)⟩
theorem upFP {g : Nat} {F : List AV → Mem → Option (List Cnd × RT)} (h : FOk (cfgP P J gd lit lv sg fns ps fs lq sp ex al) g F) : FOk (cP0 P J gd) g F := FOk.cast (C := cfgP P J gd lit lv sg fns ps fs lq sp ex al) (C' := cP0 P J gd) rfl rfl rfl h
theorem upPP {g : Nat} {F : List AV → Mem → Option (List Cnd × AV)} (h : PSOk (cfgP P J gd lit lv sg fns ps fs lq sp ex al) g F) : PSOk (cP0 P J gd) g F := h.cast rfl rfl rfl
end
class JW where
  J : Judg Tryd.prog
  hJ : J.lvl ≤ 2
class JN extends JW where
  hN : J.lvl ≤ 1
@[reducible] noncomputable def aloneN : JN := { J := loneJ Tryd.prog, hJ := Nat.zero_le _, hN := Nat.zero_le _ }
set_option linter.unusedSectionVars false
section
variable [JW]
def gdM : List (Nat × List SV) := []
noncomputable abbrev cfgG (lit : Bool) (lv : Nat) (sg : List Nat) (fns : List (Nat × Func)) (ps : PSs) (fs : FSs) (lq : LQs) (sp : SPs) (ex : EXs) : Cfg := cfgP Tryd.prog JW.J gdM lit lv sg fns ps fs lq sp ex
noncomputable abbrev cfgA (lit : Bool) (lv : Nat) (fns : List (Nat × Func)) (ps : PSs) (fs : FSs) (lq : LQs) (sp : SPs) (ex : EXs) : Cfg := cfgG lit lv [] fns ps fs lq sp ex
noncomputable abbrev cfgM (fns : List (Nat × Func)) (ps : PSs) (fs : FSs) (lq : LQs) (sp : SPs) : Cfg := cfgA false 2 fns ps fs lq sp []
noncomputable abbrev cM : Cfg := cfgM [] [] [] [] []
omit [JW] in
theorem mixedM : Tryd.prog.follows .mixedOrders = true := by kernel_rfl
abbrev ExAll (p : Nat × (List AV → Option (List Cnd × AV))) : Prop := ExP Tryd.prog p
theorem cokA {lit : Bool} {lv : Nat} {sg : List Nat} (hl : JW.J.lvl ≤ lv) {fns : List (Nat × Func)} {ps : PSs} {fs : FSs} {lq : LQs} {sp : SPs} {ex : EXs}
    (h1 : ∀ p ∈ fns, FnOk Tryd.prog p.1 p.2) (h2 : ∀ p ∈ ps, PSOk cM p.1 p.2) (h3 : ∀ p ∈ fs, FOk cM p.1 p.2) (h4 : ∀ p ∈ lq, LoopQ cM p.2.1 p.2.2) (h5 : ∀ p ∈ ex, ExAll p) : COk (cfgG lit lv sg fns ps fs lq sp ex) :=
  cokP mixedM hl h1 h2 h3 h4 h5
theorem cokM {fns : List (Nat × Func)} {ps : PSs} {fs : FSs} {lq : LQs} {sp : SPs}
    (h1 : ∀ p ∈ fns, FnOk Tryd.prog p.1 p.2) (h2 : ∀ p ∈ ps, PSOk cM p.1 p.2) (h3 : ∀ p ∈ fs, FOk cM p.1 p.2) (h4 : ∀ p ∈ lq, LoopQ cM p.2.1 p.2.2) : COk (cfgM fns ps fs lq sp) := cokA JW.hJ h1 h2 h3 h4 (fun p hp => by cases hp)
theorem upM {lit : Bool} {lv : Nat} {sg : List Nat} {fns : List (Nat × Func)} {ps : PSs} {fs : FSs} {lq : LQs} {sp : SPs} {ex : EXs} {g : Nat} {F : List AV → Mem → Option (List Cnd × RT)} (h : FOk (cfgG lit lv sg fns ps fs lq sp ex) g F) : FOk cM g F := upFP h
theorem upP {lit : Bool} {lv : Nat} {sg : List Nat} {fns : List (Nat × Func)} {ps : PSs} {fs : FSs} {lq : LQs} {sp : SPs} {ex : EXs} {g : Nat} {F : List AV → Mem → Option (List Cnd × AV)} (h : PSOk (cfgG lit lv sg fns ps fs lq sp ex) g F) : PSOk cM g F := upPP h
end
section
variable [JN]
end
inductive Cd where
  | le (a b : Int)
  | lt (a b : Int)
  | nle (a b : Nat)
  | nlt (a b : Nat)
  | eq (a b : Nat)
  | tr
  | and (x y : Cd)
def Cd.bool : Cd → Bool
  | .le a b => decide (a ≤ b)
  | .lt a b => decide (a < b)
  | .nle a b => Nat.ble a b
  | .nlt a b => Nat.blt a b
  | .eq a b => Nat.beq a b
  | .tr => true
  | .and x y => x.bool && y.bool
def Cd.all : List Cd → Bool
  | [] => true
  | c :: cs => match c.bool with | true => Cd.all cs | false => false
theorem mem0 {α : Type} {Q : α → Prop} : ∀ p ∈ ([] : List α), Q p := by intro p hp; cases hp
theorem mem1 {α : Type} {P : α → Prop} {x : α} (h : P x) : ∀ p ∈ [x], P p := by intro p hp; simp only [List.mem_cons, List.not_mem_nil, or_false] at hp; subst hp; exact h
theorem memc {α : Type} {P : α → Prop} {x : α} {l : List α} (h : P x) (hl : ∀ p ∈ l, P p) : ∀ p ∈ x :: l, P p := by
  intro p hp
  rcases List.mem_cons.1 hp with rfl | hp
  · exact h
  · exact hl p hp
theorem ok64 {n : Int} (h1 : -9223372036854775808 ≤ n) (h2 : n ≤ 9223372036854775807) : okI .i64 n := by
  unfold okI; simp [IntKind.min, IntKind.max, IntKind.bits, IntKind.signed]; omega
theorem of_ok64 {n : Int} (h : okI .i64 n) : -9223372036854775808 ≤ n ∧ n ≤ 9223372036854775807 := by
  unfold okI at h; simp [IntKind.min, IntKind.max, IntKind.bits, IntKind.signed] at h; omega
def one (l : List (List Int)) (i : Nat) : Int := (l.getD i []).getD 0 0
def i64? (x : AV) : Option Int := match x.int with
  | .l .i64 n => some n
  | .s .i64 n => some n
  | _ => none
theorem i64_fits {x : AV} {n : Int} (h : i64? x = some n) : x.fits (.one (.si .i64 n)) := by
  unfold i64? at h
  split at h
  · rename_i n' hx
    cases h
    cases x with
    | one s =>
      cases s <;> simp only [AV.int] at hx <;> first | cases hx
      exact .inr (.inl rfl)
    | agg l => cases hx
    | tup l => cases hx
  · rename_i n' hx
    cases h
    cases x with
    | one s =>
      cases s <;> simp only [AV.int] at hx <;> first | cases hx
      exact .inl rfl
    | agg l => cases hx
    | tup l => cases hx
  · cases h
theorem sel_at {L : List Int} {j : Nat} (h : j < L.length) : sel L (((0 : Nat) : Int) + (j : Int)) = L[j] := by
  unfold sel
  rw [show (((0 : Nat) : Int) + (j : Int)).toNat = j by omega]
  simp [h]
theorem met_b {c : Bool} {ns js : List Nat} (hn : ns.length = 1) (hj : js = []) : RS.met (.p (.c (.b c))) (.p (.c (.b c))) ns js := ⟨rfl, by
  match ns, hn with
  | [x], _ => exact ⟨trivial, trivial⟩, by subst hj; exact List.nodup_nil⟩
def allQ : List Prop → Prop
  | [] => True
  | p :: ps => p ∧ allQ ps
def needR : List Prop → R2 → R2
  | [], o => o
  | p :: ps, o => .need p (needR ps o)
theorem needR_sat {K : RS → List Nat → List Nat → Prop} {o : R2} : ∀ {ps : List Prop}, allQ ps → o.sat K → (needR ps o).sat K
  | [], _, h => h
  | _ :: _, hp, h => ⟨hp.1, needR_sat hp.2 h⟩
def lenP (L : List Int) : Prop := L.length ≤ 140737488355328 ∧ L.length * 1 ≤ 140737488355328
instance (L : List Int) : Decidable (lenP L) := by unfold lenP; infer_instance
theorem partQ_all (L : List Int) : partQ L 0 L.length = L := by rw [partQ_eq]; simp
end Go.Proofs.YtmiongjabbpmkaaDoor

namespace Go.Proofs.YtmiongjabbpmkaaDoor
open Go Go.Ax
set_option linter.unusedSectionVars false
variable [JW]
theorem fn_Same : FnOk Tryd.prog 11 Tryd.f11 := ⟨Tryd.func11, by kernel_rfl⟩
noncomputable def bd_same : Code := loopAt Tryd.f11 0
structure ISame where
  n : Nat
  m : Nat
  L : List Int
  M : List Int
  i : Int
def bl_same (L M : List Int) : List AB := [.rseq .u8 L 1, .gone, .rseq .u8 M 3, .gone]
def St_same (x : ISame) : LS := ⟨[(4, .any), (0, .one (.slr 0 1 0 x.n)), (1, .one (.slr 2 3 0 x.m)), (5, .one (.si .i64 x.i))], bl_same x.L x.M⟩
def pi_same (s : LS) : Option ISame := match s with
  | ⟨[(4, _), (0, .one (.slr 0 1 0 n)), (1, .one (.slr 2 3 0 m)), (5, x)], [.rseq .u8 L 1, .gone, .rseq .u8 M 3, .gone]⟩ => match i64? x with
    | some i => some ⟨n, m, L, M, i⟩
    | none => none
  | _ => none
theorem pi_same_fits (s : LS) (x : ISame) (h : pi_same s = some x) : s.fits (St_same x) := by
  unfold pi_same at h
  split at h
  · split at h
    · rename_i i hi
      cases h
      exact ⟨⟨rfl, .inr (.inr rfl), rfl, .inl rfl, rfl, .inl rfl, rfl, i64_fits hi, trivial⟩, rfl⟩
    · cases h
  · cases h
theorem run_bd_same (x : ISame) (X : AE → Option LS → Prop) :
    exec cM 100 (.run bd_same) (slots 26 (St_same x).sl) (memX gdM (St_same x).bl) (endX 0 26 [4, 0, 1, 5] [.fix 0, .fix 1, .fix 2, .fix 3] [false, false, false, false] X) =
    .br (cmpI .lss x.i (x.n : Int)) (.need (0 ≤ x.i) (.need (x.i < (x.n : Int)) (.need (0 ≤ ((0 : Nat) : Int) + x.i) (.need (((0 : Nat) : Int) + x.i < (x.L.length : Int)) (.need (0 ≤ x.i) (.need (x.i < (x.m : Int)) (.need (0 ≤ ((0 : Nat) : Int) + x.i) (.need (((0 : Nat) : Int) + x.i < (x.M.length : Int))
        (.br (cmpI .neq (sel x.L (((0 : Nat) : Int) + x.i)) (sel x.M (((0 : Nat) : Int) + x.i)))
          (.need (X .ret (some ⟨[(4, .one (.lb false)), (0, .one (.slr 0 1 0 x.n)), (1, .one (.slr 2 3 0 x.m)), (5, .one (.si .i64 x.i))], bl_same x.L x.M⟩)) (.done .any Mem.empty))
          (.need (X .normal (some ⟨[(4, .any), (0, .one (.slr 0 1 0 x.n)), (1, .one (.slr 2 3 0 x.m)), (5, .one (.si .i64 (binI .add .i64 x.i 1)))], bl_same x.L x.M⟩)) (.done .any Mem.empty)))))))))))
      (.need (X (.exit 0) (some ⟨[(4, .any), (0, .one (.slr 0 1 0 x.n)), (1, .one (.slr 2 3 0 x.m)), (5, .one (.si .i64 x.i))], bl_same x.L x.M⟩)) (.done .any Mem.empty)) := by kernel_rfl
def Inv_same (x : ISame) : Prop := x.n = x.L.length ∧ x.m = x.M.length ∧ x.n = x.m ∧ x.n ≤ 9223372036854775807 ∧ ∃ j : Nat, x.i = (j : Int) ∧ j ≤ x.n ∧ x.L.take j = x.M.take j
def ok_same (x : ISame) : Prop := x.n = x.L.length ∧ x.m = x.M.length ∧ x.n = x.m ∧ x.n ≤ 9223372036854775807 ∧ x.i = 0
def Ex_same (x : ISame) (e : AE) (s : LS) : Prop := (e = .exit 0 ∧ x.L = x.M ∧ s = ⟨[], bl_same x.L x.M⟩) ∨ (e = .ret ∧ x.L ≠ x.M ∧ s = ⟨[(4, .one (.lb false))], bl_same x.L x.M⟩)
noncomputable def F_same : TM → Mem → Option ((AE → TM → Mem → Out) → Out) := lqF gdM 26 [] [4, 0, 1, 5] [.of 0, .of 1] [false, false, false, false] pi_same ok_same fun x k => .br (decide (x.L = x.M)) (k (.exit 0) ⟨[], bl_same x.L x.M⟩) (k .ret ⟨[(4, .one (.lb false))], bl_same x.L x.M⟩)
theorem lq_same : LoopQ cM bd_same F_same := by
  refine lq_rule (C := cM) (cokM mem0 mem0 mem0 mem0) rfl (n := 100) (ri := [.fix 0, .fix 1, .fix 2, .fix 3]) (St := St_same) (Inv := Inv_same) (mu := fun x => (x.n - x.i).toNat) (Ex := Ex_same) pi_same_fits (fun x h => ?_) (fun K k x _ hs e s he => ?_) (fun x hI => ?_)
  · obtain ⟨h1, h2, h3, h4, h5⟩ := h
    exact ⟨h1, h2, h3, h4, 0, h5, Nat.zero_le _, rfl⟩
  · rcases he with ⟨rfl, h, rfl⟩ | ⟨rfl, h, rfl⟩
    · exact hs.1 (decide_eq_true h)
    · exact hs.2 (decide_eq_false h)
  · show Out.sat (fun _ _ => True) (exec cM 100 (.run bd_same) (slots 26 (St_same x).sl) (memX gdM (St_same x).bl) (endX 0 26 [4, 0, 1, 5] [.fix 0, .fix 1, .fix 2, .fix 3] [false, false, false, false] _))
    rw [run_bd_same]
    obtain ⟨n, m, L, M, i⟩ := x
    obtain ⟨h1, h2, h3, h4, j, h5, h6, h7⟩ := hI
    dsimp only at h1 h2 h3 h4 h5 h6 h7 ⊢
    subst h5 h1
    refine ⟨fun hc => ?_, fun hc => ⟨⟨_, .inl ⟨rfl, ?_, rfl⟩, trivial, rfl⟩, trivial⟩⟩
    · have hc : (j : Int) < L.length := of_decide_eq_true hc
      have hj : j < L.length := by omega
      have hj' : j < M.length := by omega
      refine ⟨by omega, hc, by omega, by omega, by omega, by omega, by omega, by omega, fun hd => ?_, fun hd => ?_⟩
      · rw [sel_at hj, sel_at hj'] at hd
        have hd : L[j] ≠ M[j] := by simpa [cmpI] using hd
        refine ⟨⟨_, .inr ⟨rfl, fun e => hd (by simp only at e; subst e; rfl), rfl⟩, ⟨rfl, .inl rfl, trivial⟩, rfl⟩, trivial⟩
      · rw [sel_at hj, sel_at hj'] at hd
        have hd : L[j] = M[j] := by simpa [cmpI] using hd
        have hi' : binI .add .i64 (j : Int) 1 = ((j + 1 : Nat) : Int) := by
          show IntKind.i64.wrap _ = _
          rw [wrap_ok (ok64 (by omega) (by omega))]; omega
        refine ⟨⟨⟨L.length, m, L, M, ((j + 1 : Nat) : Int)⟩, ⟨rfl, h2, h3, h4, j + 1, rfl, by simp only; omega, ?_⟩, by simp only; omega, fun e s' h => h, ⟨rfl, .inl rfl, rfl, .inl rfl, rfl, .inl rfl, rfl, .inl (by rw [hi']), trivial⟩, rfl⟩, trivial⟩
        rw [List.take_succ_eq_append_getElem hj, List.take_succ_eq_append_getElem hj', h7, hd]
    · have hc : ¬ (j : Int) < L.length := of_decide_eq_false hc
      have : j = L.length := by omega
      subst this
      rw [List.take_length] at h7
      rw [h7, List.take_of_length_le (by omega)]
theorem run_Same (n m : Nat) (L M : List Int) : (callA (cfgM [] [] [] [(4, bd_same, F_same)] []) true 100 Tryd.f11 [.one (.slr 0 1 0 n), .one (.slr 2 3 0 m)] (memX gdM (bl_same L M))).view =
    .br (cmpI .neq (n : Int) (m : Int)) (.leaf (.p (.c (.b false))) [0] []) (.need (bd_same = bd_same) (.need (ok_same ⟨n, m, L, M, 0⟩)
      (.br (decide (L = M)) (.leaf (.p (.c (.b true))) [0] []) (.leaf (.p (.c (.b false))) [0] [])))) := by kernel_rfl
def T_Same : List (List Int) → RT := fun l => .one (.p (.c (.b (decide (l.getD 0 [] = l.getD 1 [])))))
def q_Same := (11, fsum [.one (.s .u8), .one (.s .u8)] (fun _ => []) T_Same)
set_option maxRecDepth 100000 in
theorem qs_Same : FOk cM q_Same.1 q_Same.2 :=
  upM (fok_run (C := cfgM [] [] [] [(4, bd_same, F_same)] []) (shs := [.one (.s .u8), .one (.s .u8)]) (T := T_Same) (cokM mem0 mem0 mem0 (mem1 lq_same)) rfl rfl fn_Same (by kernel_rfl) 100 fun Ms hok _ => ⟨_, rfl, view_sat (by
    have h1 : (Ms 0).length ≤ 9223372036854775807 := hok.1.1
    show R2.sat _ (callA (cfgM [] [] [] [(4, bd_same, F_same)] []) true 100 Tryd.f11 [.one (.slr 0 1 0 (Ms 0).length), .one (.slr 2 3 0 (Ms 1).length)] (memX gdM (bl_same (Ms 0) (Ms 1)))).view
    rw [run_Same]
    show R2.sat (RS.met (.p (.c (.b (decide (Ms 0 = Ms 1)))))) _
    refine ⟨fun hc => ?_, fun hc => ⟨rfl, ⟨rfl, rfl, ?_, h1, rfl⟩, fun hd => ?_, fun hd => ?_⟩⟩
    · have : Ms 0 ≠ Ms 1 := fun e => by rw [e] at hc; simp [cmpI] at hc
      rw [decide_eq_false this]; exact met_b rfl rfl
    · have : ((Ms 0).length : Int) = (Ms 1).length := by simpa [cmpI] using hc
      simp only; omega
    · rw [hd]; exact met_b rfl rfl
    · rw [hd]; exact met_b rfl rfl)⟩)
end Go.Proofs.YtmiongjabbpmkaaDoor

namespace Go.Proofs.YtmiongjabbpmkaaDoor
open Go Go.Ax
set_option linter.unusedSectionVars false
variable [JW]
end Go.Proofs.YtmiongjabbpmkaaDoor

namespace Go.Proofs.YtmiongjabbpmkaaDoor
open Go Go.Ax
set_option linter.unusedSectionVars false
variable [JW]
structure ITrim where
  t : TypeId
  L : List Int
  c : Int
  o0 : Nat
  n0 : Nat
  o : Nat
  n : Nat
end Go.Proofs.YtmiongjabbpmkaaDoor

namespace Go.Proofs.YtmiongjabbpmkaaDoor
open Go Go.Ax
set_option linter.unusedSectionVars false
variable [JW]
def leafL (L : List Int) (b : Nat) : R2 := .leaf (.p (.c (.s 5 .u8 L))) [L.length] [b]
theorem leafL_sat {L M : List Int} {b : Nat} (h : L = M) : (leafL L b).sat (RS.met (.p (.c (.s 5 .u8 M)))) := by
  subst h
  exact ⟨rfl, ⟨rfl, trivial⟩, by simp⟩
end Go.Proofs.YtmiongjabbpmkaaDoor

namespace Go.Proofs.YtmiongjabbpmkaaDoor
open Go Go.Ax
set_option linter.unusedSectionVars false
section
variable [JN]
end
variable [JW]
theorem fn_Clone : FnOk Tryd.prog 63 Tryd.f63 := ⟨Tryd.func63, by kernel_rfl⟩
def cloneR (n : Nat) (L : List Int) : R2 := .br (decide (n = 0)) (.leaf (.p (.c .e)) [0] []) (needR [0 + n ≤ L.length, True, lenP ([] ++ partQ L 0 n)] (leafL ([] ++ partQ L 0 n) 3))
theorem run_Clone (n : Nat) (L : List Int) : (callA cM true 1000 Tryd.f63 [.one (.slr 0 1 0 n)] (memX gdM [.rseq .u8 L 1, .gone])).view =
    .br (decide (n = 0)) (.both (.leaf (.p (.c .e)) [0] []) (cloneR n L)) (cloneR n L) := by kernel_rfl
def sliceT (M : List Int) : RT := .br (decide (M = [])) (.one (.p (.c .e))) (.one (.p (.c (.s 5 .u8 M))))
def T_Clone : List (List Int) → RT := fun l => sliceT (l.getD 0 [])
def bigLen : Nat := 100000000000000
def q_Clone := (63, fsum [.one (.s .u8)] (fun l => [(l.getD 0 []).length ≤ bigLen]) T_Clone)
theorem lenP_of {L : List Int} (h : L.length ≤ 140737488355328) : lenP L := ⟨h, by omega⟩
theorem sliceT_e {M : List Int} (h : M = []) : (R2.leaf (.p (.c .e)) [0] []).sat (RS.met (sliceT M).now) := by
  subst h
  exact ⟨rfl, ⟨trivial, trivial⟩, List.nodup_nil⟩
theorem sliceT_s {M L : List Int} {b : Nat} (h : M ≠ []) (e : L = M) : (leafL L b).sat (RS.met (sliceT M).now) := by
  unfold sliceT
  rw [decide_eq_false h]
  exact leafL_sat e
theorem cloneR_sat {M : List Int} (hM : M.length ≤ bigLen) : (cloneR M.length M).sat (RS.met (sliceT M).now) := by
  unfold bigLen at hM
  refine ⟨fun h => sliceT_e (List.eq_nil_of_length_eq_zero (of_decide_eq_true h)), fun h => ?_⟩
  have h := of_decide_eq_false h
  rw [partQ_all, List.nil_append]
  exact needR_sat ⟨by omega, trivial, lenP_of (by omega), trivial⟩ (sliceT_s (fun e => h (by rw [e]; rfl)) rfl)
set_option maxRecDepth 100000 in
theorem qs_Clone : FOk cM q_Clone.1 q_Clone.2 :=
  upM (fok_run (C := cM) (shs := [.one (.s .u8)]) (T := T_Clone) (conds := fun l => [(l.getD 0 []).length ≤ bigLen]) (cokM mem0 mem0 mem0 mem0) rfl rfl fn_Clone (by kernel_rfl) 1000 fun Ms _ hc => ⟨_, rfl, view_sat (by
    have hc : (Ms 0).length ≤ bigLen := hc.1
    refine Eq.mpr (congrArg (R2.sat _) (run_Clone (Ms 0).length (Ms 0))) ?_
    show R2.sat (RS.met (sliceT (Ms 0)).now) _
    exact ⟨fun h => ⟨sliceT_e (List.eq_nil_of_length_eq_zero (of_decide_eq_true h)), cloneR_sat hc⟩, fun _ => cloneR_sat hc⟩)⟩)
structure IPad where
  w : Int
  L0 : List Int
  n : Nat
  L : List Int
end Go.Proofs.YtmiongjabbpmkaaDoor

namespace Go.Proofs.YtmiongjabbpmkaaDoor
open Go Go.Ax
set_option linter.unusedSectionVars false
variable [JW]
end Go.Proofs.YtmiongjabbpmkaaDoor

namespace Go.Proofs.YtmiongjabbpmkaaDoor
open Go Go.Ax
set_option linter.unusedSectionVars false
variable [JW]
theorem fn_putN : FnOk Tryd.prog 73 Tryd.f73 := ⟨Tryd.func73, by kernel_rfl⟩
def byteAt (x : Int) (i : Nat) : Int := IntKind.u8.wrap (binI .shr .u64 x (binI .mul .i64 8 (i : Int)))
theorem fn_words : FnOk Tryd.prog 74 Tryd.f74 := ⟨Tryd.func74, by kernel_rfl⟩
theorem fn_Chunk : FnOk Tryd.prog 83 Tryd.f83 := ⟨Tryd.func83, by kernel_rfl⟩
theorem fn_Chunk1 : FnOk Tryd.prog 95 Tryd.f95 := ⟨Tryd.func95, by kernel_rfl⟩
theorem FOk.cases {C : Cfg} {g : Nat} {shs : List SH} (c : List (List Int) → Prop) [∀ l, Decidable (c l)] {conds : List (List Int) → List Cnd} {T : List (List Int) → RT} (h1 : FOk C g (fsum shs (fun l => ↑(c l) :: conds l) T)) (h2 : FOk C g (fsum shs (fun l => ↑(¬ c l) :: conds l) T)) : FOk C g (fsum shs conds T) := by
  obtain ⟨h0, h1⟩ := h1
  obtain ⟨_, h2⟩ := h2
  refine ⟨h0, fun args mem r cs hF hp B w0 w env vals hm ha => ?_⟩
  unfold fsum at hF
  split at hF
  · rename_i fl hop
    split at hF
    · rename_i ps ess hpa
      cases hF
      rw [allP_iff] at hp
      by_cases hc : c ess
      · exact h1 args mem (T ess) (ps ++ ↑(c ess) :: conds ess) (by unfold fsum; rw [hop]; simp only [hpa]) ((allP_iff).2 ⟨hp.1, hc, hp.2⟩) B w0 w env vals hm ha
      · exact h2 args mem (T ess) (ps ++ ↑(¬ c ess) :: conds ess) (by unfold fsum; rw [hop]; simp only [hpa]) ((allP_iff).2 ⟨hp.1, hc, hp.2⟩) B w0 w env vals hm ha
    · cases hF
  · cases hF
end Go.Proofs.YtmiongjabbpmkaaDoor

namespace Go.Proofs.YtmiongjabbpmkaaDoor
open Go Go.Ax
set_option linter.unusedSectionVars false
variable [JW]
end Go.Proofs.YtmiongjabbpmkaaDoor
