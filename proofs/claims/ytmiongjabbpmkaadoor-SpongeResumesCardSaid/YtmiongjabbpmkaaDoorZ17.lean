import Derived.Test.YtmiongjabbpmkaaDoorZ16
import Derived.Conc.Holds
import Derived.SevenTiedAt
set_option linter.unusedSimpArgs false
set_option linter.unusedVariables false
namespace Go.Proofs.YtmiongjabbpmkaaDoor
open Go Go.Ax
set_option linter.unusedSectionVars false
section
variable [JW]
abbrev WXt := Int → List Int → Int → List Int → Nat → Int
abbrev WAt := Int → List Int → Int → List Int → Int
def qSmV (E : List (List Int) → Bool) := (11, fsum [.one (.s .u8), .one (.s .u8)] (fun _ => []) fun l => .one (.p (.c (.b (E l)))))
def qbsS (X : WXt) (A : WAt) (RX : RXt) (RA : RAt) (RL : RLt) (ok : Int → Int → Int → Bool → Bool) : QBs := [(9, writeB 66 X A), (10, readB 66 RX RA RL), (14, fromB 66 ok)]
noncomputable abbrev cRs (R : List (List Int) → Bool) (E : List (List Int) → Bool) (X : WXt) (A : WAt) (RX : RXt) (RA : RAt) (RL : RLt) (ok : Int → Int → Int → Bool → Bool) : Cfg := cfgT Tryd.prog JW.J gdA false 1 [] [] [p_wakes15, p_State] [qRtV R, qSmV E] [] [] [] (qbsS X A RX RA RL ok)
def yesQ : Out := .done (.one (.lb true)) Mem.empty
def noQ : Out := .done (.one (.lb false)) Mem.empty
def rdN1 (rate at_ : Int) (rd : Bool) (n : Int) (kNil kRow kBad : Out) : Out := .need (0 ≤ at_) (.need (at_ ≤ rate) (.need (1 ≤ rate) (.need (rate ≤ 200) (.need (rd = false → at_ < rate) (.br (decide (0 ≤ n ∧ n ≤ 1048576)) (.br (decide (n = 0)) kNil kRow) kBad)))))
def rsC (E : List (List Int) → Bool) (C : List Int) (rate at_ : Int) (rd : Bool) (n : Int) : Out :=
  rdN1 rate at_ rd n
    (rdN1 rate at_ rd n (.br (E [[], []]) (.done (.one (.sb (cmpI .eql 0 n))) Mem.empty) noQ) (.need (0 + C.length ≤ C.length) (.br (E [[], partQ C 0 C.length]) (.done (.one (.sb (cmpI .eql 0 n))) Mem.empty) noQ)) noQ)
    (rdN1 rate at_ rd n (.need (0 + C.length ≤ C.length) (.br (E [partQ C 0 C.length, []]) (.done (.one (.sb (cmpI .eql (C.length : Int) n))) Mem.empty) noQ)) (.need (0 + C.length ≤ C.length) (.need (0 + C.length ≤ C.length) (.br (E [partQ C 0 C.length, partQ C 0 C.length]) (.done (.one (.sb (cmpI .eql (C.length : Int) n))) Mem.empty) noQ))) noQ)
    (rdN1 rate at_ rd n noQ noQ noQ)
def rsB (E : List (List Int) → Bool) (RL : RLt) (ok : Int → Int → Int → Bool → Bool) (r s : Int) (es : List Int) (at_ : Int) (rd : Bool) (n : Int) : Out := .br (ok r s at_ rd) (rsC E (RL r s es at_ rd n) r at_ rd n) noQ
def rsA (E : List (List Int) → Bool) (RX : RXt) (RA : RAt) (RL : RLt) (ok : Int → Int → Int → Bool → Bool) (r s : Int) (es : List Int) (at_ : Int) (rd : Bool) (n0 n1 : Int) : Out :=
  rdN1 r at_ rd n0 (rsB E RL ok r s es at_ rd n1) (rsB E RL ok r s (tab 25 (RX r s es at_ rd n0)) (RA r s es at_ rd n0) true n1) (rsB E RL ok r s es at_ rd n1)
set_option maxRecDepth 100000 in
theorem run_Resumes (R : List (List Int) → Bool) (E : List (List Int) → Bool) (X : WXt) (A : WAt) (RX : RXt) (RA : RAt) (RL : RLt) (ok : Int → Int → Int → Bool → Bool) (r s : Int) (x : Nat → Int) (a : Int) (f : Bool) (L : List Int) (n0 n1 : Int) :
    callA (cRs R E X A RX RA RL ok) false 1000 Tryd.f5 [sgA r s x a f, .one (.slr 60 61 0 L.length), .agg [.si .u8 n0, .si .u8 n1]] (memX gdA (List.replicate 58 .gone ++ [.rseq .u8 L 61, .gone, .gone, .gone])) =
      .br (cmpI .gtr (L.length : Int) 300) yesQ (.br (!R ([[r], [s]] ++ (tab 25 x).map (fun v => [v]) ++ [[a], [iteI f 1 0]])) yesQ (.br (ok r s a f)
        (.need (0 + L.length ≤ L.length) (.need (0 ≤ a) (.need (0 ≤ r) (.need (r ≤ 200) (.br f (rsA E RX RA RL ok r s (tab 25 x) a f (IntKind.i64.wrap n0) (IntKind.i64.wrap n1))
          (.need (a < r) (rsA E RX RA RL ok r s (tab 25 (X r (tab 25 x) a (partQ L 0 L.length))) (A r (tab 25 x) a (partQ L 0 L.length)) false (IntKind.i64.wrap n0) (IntKind.i64.wrap n1))))))))
        noQ)) := by kernel_rfl
end
end Go.Proofs.YtmiongjabbpmkaaDoor

namespace Go.Proofs.YtmiongjabbpmkaaDoor
open Go Go.Ax Go.RowKit
set_option linter.unusedSectionVars false
theorem absW_lt {rN : Nat} (hr : 1 ≤ rN) : ∀ (f : Nat) (x : Nat → Int) (at_ : Nat) (M : List Int), at_ < rN → (absW rN f x at_ M).2 < rN := by
  intro f
  induction f with
  | zero => intro x at_ M h; exact h
  | succ f ih =>
    intro x at_ M h
    rw [absW]
    split
    · exact h
    · refine ih _ _ _ ?_
      split <;> omega
def KS : AV → Mem → Prop := fun v _ => v = .one (.sb true) ∨ v = .one (.lb true)
def E_sm : List (List Int) → Bool := fun l => decide (l.getD 0 [] = l.getD 1 [])
theorem E_eq (c : List Int) : E_sm [c, c] = true := decide_eq_true rfl
theorem okP_iff {r s a : Int} {f : Bool} : okP r s a f = true ↔ ((r = 72 ∨ r = 104 ∨ r = 136 ∨ r = 144 ∨ r = 168) ∧ (s = 4 ∨ s = 6 ∨ s = 31) ∧ 0 ≤ a ∧ (a < r ∨ (a = r ∧ f = true))) := decide_eq_true_iff
structure StP (r s a : Int) (f : Bool) : Prop where
  ok : okP r s a f = true
  h0 : 0 ≤ a
  h1 : a ≤ r
  h2 : 72 ≤ r
  h3 : r ≤ 168
  h4 : f = false → a < r
theorem StP.of {r s a : Int} {f : Bool} (h : okP r s a f = true) : StP r s a f := by
  obtain ⟨h1, h2, h3, h4⟩ := okP_iff.1 h
  refine ⟨h, h3, by omega, by omega, by omega, fun e => ?_⟩
  rcases h4 with h4 | h4
  · exact h4
  · rw [e] at h4; cases h4.2
theorem StP.to {r s a a' : Int} {f f' : Bool} (h : StP r s a f) (h0 : 0 ≤ a') (h1 : a' < r ∨ (a' = r ∧ f' = true)) : StP r s a' f' := by
  obtain ⟨k1, k2, _, _⟩ := okP_iff.1 h.ok
  exact .of (okP_iff.2 ⟨k1, k2, h0, h1⟩)
theorem rdN1_sat {r s a n : Int} {f : Bool} {k1 k2 k3 : Out} (h : StP r s a f) (h1 : n = 0 → k1.sat KS) (h2 : 0 < n → n ≤ 1048576 → k2.sat KS) (h3 : ¬ (0 ≤ n ∧ n ≤ 1048576) → k3.sat KS) : (rdN1 r a f n k1 k2 k3).sat KS := by
  refine ⟨h.h0, h.h1, by have := h.h2; omega, by have := h.h3; omega, h.h4, fun e => ⟨fun e2 => h1 (of_decide_eq_true e2), fun e2 => ?_⟩, fun e => h3 (of_decide_eq_false e)⟩
  have e := of_decide_eq_true e
  have e2 := of_decide_eq_false e2
  exact h2 (by omega) e.2
section
variable [JW]
theorem rqL_len {r s a n : Int} {f : Bool} {es : List Int} (h : StP r s a f) (hn : 0 < n) : ((rqL r s es a f n).length : Int) = n ∧ 0 ≤ rqA r s es a f n ∧ rqA r s es a f n ≤ r := by
  have h2 := h.h2
  have h0 := h.h0
  have h1 := h.h1
  obtain ⟨rN, rfl⟩ : ∃ m : Nat, r = m := ⟨r.toNat, by omega⟩
  obtain ⟨nN, rfl⟩ : ∃ m : Nat, n = m := ⟨n.toNat, by omega⟩
  obtain ⟨aN, rfl⟩ : ∃ m : Nat, a = m := ⟨a.toNat, by omega⟩
  obtain ⟨bN, eb, hb⟩ : ∃ bN : Nat, (if f then (aN : Int) else 0) = (bN : Int) ∧ bN ≤ rN := by
    cases f
    · exact ⟨0, rfl, by omega⟩
    · exact ⟨aN, rfl, by omega⟩
  unfold rqL rqA
  rw [eb]
  obtain ⟨q1, q2, q3⟩ := rdB_len (rN := rN) (at_ := bN) (n := nN) (es := rqE (rN : Int) s es (aN : Int) f) (by omega) hb
  exact ⟨by rw [q1], q3, q2⟩
theorem rsC_sat {r s a n : Int} {f : Bool} {es : List Int} (h : StP r s a f) (hn : 0 ≤ n ∧ n ≤ 1048576) : (rsC E_sm (rqL r s es a f n) r a f n).sat KS := by
  refine rdN1_sat h (fun e => rdN1_sat h (fun _ => ⟨fun _ => .inl (by rw [show cmpI .eql 0 n = true by subst e; rfl]), fun e2 => ?_⟩) (fun e2 => by omega) (fun e2 => absurd hn e2)) (fun e0 _ => rdN1_sat h (fun e => by omega) (fun _ _ => ⟨by omega, by omega, fun _ => .inl ?_, fun e2 => ?_⟩) (fun e2 => absurd hn e2)) (fun e2 => absurd hn e2)
  · rw [E_eq] at e2; cases e2
  · have := (rqL_len (es := es) h e0).1
    rw [this]
    rw [show cmpI .eql n n = true from decide_eq_true rfl]
  · rw [E_eq] at e2; cases e2
theorem rsB_sat {r s a n : Int} {f : Bool} {es : List Int} (h : StP r s a f) (hn : 0 ≤ n ∧ n ≤ 1048576) : (rsB E_sm rqL okP r s es a f n).sat KS :=
  ⟨fun _ => rsC_sat h hn, fun e => by rw [h.ok] at e; cases e⟩
theorem rsA_sat {r s a n0 n1 : Int} {f : Bool} {es : List Int} (h : StP r s a f) (hn : 0 ≤ n1 ∧ n1 ≤ 1048576) : (rsA E_sm rqX rqA rqL okP r s es a f n0 n1).sat KS :=
  rdN1_sat h (fun _ => rsB_sat h hn) (fun e _ => rsB_sat (h.to (rqL_len (es := es) h e).2.1 (by
    have := (rqL_len (es := es) h e).2.2
    rcases Int.lt_or_eq_of_le this with q | q
    · exact .inl q
    · exact .inr ⟨q, rfl⟩)) hn) fun _ => rsB_sat h hn
theorem resumes_sat {r s a n0 n1 : Int} {x : Nat → Int} {f : Bool} {L : List Int} (hn1 : okI .u8 n1) :
    ∃ o, callA (cRs T_Rt E_sm wrX wrA rqX rqA rqL okP) false 1000 Tryd.f5 [sgA r s x a f, .one (.slr 60 61 0 L.length), .agg [.si .u8 n0, .si .u8 n1]] (memX gdA (List.replicate 58 .gone ++ [.rseq .u8 L 61, .gone, .gone, .gone])) = o ∧ o.sat KS := by
  refine ⟨_, run_Resumes _ _ _ _ _ _ _ _ r s x a f L n0 n1, ?_⟩
  have hw : 0 ≤ IntKind.i64.wrap n1 ∧ IntKind.i64.wrap n1 ≤ 1048576 := by
    obtain ⟨q1, q2⟩ := hn1
    simp [IntKind.min, IntKind.max, IntKind.signed, IntKind.bits] at q1 q2
    rw [wrap_ok (by constructor <;> simp [IntKind.min, IntKind.max, IntKind.signed, IntKind.bits] <;> omega)]
    omega
  have hT : T_Rt ([[r], [s]] ++ (tab 25 x).map (fun v => [v]) ++ [[a], [iteI f 1 0]]) = okP r s a f := by
    show okP r s a (iteI f 1 0 != 0) = _
    cases f <;> rfl
  rw [hT, partQ_all]
  refine ⟨fun _ => .inr rfl, fun _ => ⟨fun _ => .inr rfl, fun e => ?_⟩⟩
  have e : okP r s a f = true := by simpa using e
  have h := StP.of e
  have h2 := h.h2
  have h3 := h.h3
  refine ⟨fun _ => ⟨by omega, h.h0, by omega, by omega, fun hf => ?_, fun hf => ⟨h.h4 hf, ?_⟩⟩, fun e2 => by rw [e] at e2; cases e2⟩
  · exact rsA_sat h hw
  · have h0 := h.h0
    have h4 := h.h4 hf
    refine rsA_sat (h.to (by unfold wrA; omega) (.inl ?_)) hw
    unfold wrA
    have := absW_lt (rN := r.toNat) (by omega) L.length (fun j => (tab 25 x).getD j 0) a.toNat L (by omega)
    omega
end
set_option maxRecDepth 100000 in
theorem law_SpongeResumes {H : Type} {enc : TypeId × Value → H} {W : World} {base : Nat} {args : Array Value} {ds : List (DataW H)} {ps : List MemPlace} (hT : DataW.TrodAll enc Tryd.prog W 0 (fun _ => true) true Tryd.f5.params.toList args.toList ds ps)
    (hval : ∀ (j : Nat) t v, Tryd.f5.params[j]? = some t → args[j]? = some v → Value.okWide Tryd.prog W .any base t v) (hgd : GD gdA W.heap.size W) :
    CallsL (besideJ Tryd.prog) 5 args W fun e w' => e = .returned (.bool true) ∧ RowKit.Below W.heap.size W w' := by
  letI : JN := besideN
  have hC : COk (cRs T_Rt E_sm wrX wrA rqX rqA rqL okP) := cokT mixedM (Nat.le_refl 1) mem0 (memc ps_wakes15 (mem1 (upDP ps_State))) (memc (upD qs_Rt) (mem1 (upD qs_Same))) mem0 mem0 (memc (qb_Write fun _ h => h) (memc (qb_Read fun _ h => h) (mem1 qb_From)))
  have h := law_s (C := cRs T_Rt E_sm wrX wrA rqX rqA rqL okP) hC rfl rfl (fn := Tryd.f5) ⟨Tryd.func5, by kernel_rfl⟩ (shs := [shSg, .one (.s .u8), .one (.l .u8 2)]) (by kernel_rfl) 1000
    (fun Ms hok => resumes_sat (r := (Ms 0).getD 0 0) (s := (Ms 1).getD 0 0) (x := fun i => (Ms (2 + i)).getD 0 0) (a := (Ms 27).getD 0 0) (f := (Ms 28).getD 0 0 != 0) (L := Ms 29) (n0 := (Ms 30).getD 0 0) (n1 := (Ms 30).getD 1 0) (by
      have h : (SE.l .u8 2).ok (Ms 30) := hok.2.2.2.2.2.2.2.2.2.2.2.2.2.2.2.2.2.2.2.2.2.2.2.2.2.2.2.2.2.2.1
      obtain ⟨h1, h2⟩ := h
      match hM : Ms 30, h1 with
      | [u, v], _ => exact h2 v (by rw [hM]; simp))) hT hval hgd
  exact h
end Go.Proofs.YtmiongjabbpmkaaDoor

namespace Go.Proofs.YtmiongjabbpmkaaDoor
open Go Go.Ax
def laidA : List (String × DataW Unit) := [("cribble/step.offsets", Rows.laid_cribble_step_offsets), ("cribble/step.constants", Rows.laid_cribble_step_constants)]
theorem gd_of_laid {W : World} (h : laidMetH Tryd.prog laidA W) : GD gdA W.heap.size W := by
  rw [MakeChecks.laidMetH_plain _ _ _ (by kernel_rfl)] at h
  have h0 : laidMet Tryd.prog (("cribble/step.offsets", Lib.tabData .i64 offs) :: [("cribble/step.constants", Lib.tabData .u64 rcs)]) W := h
  have h1 := Lib.tabIs_of_head (P := Tryd.prog) (g := 1) (t := 120) (e := 3) (by kernel_rfl) (by kernel_rfl) Tryd.underlying120 Tryd.underlying3 (by kernel_rfl) (by kernel_rfl) h0
  have h2 := Lib.tabIs_of_head (P := Tryd.prog) (g := 2) (t := 123) (e := 36) (by kernel_rfl) (by kernel_rfl) Tryd.underlying123 Tryd.underlying36 (by kernel_rfl) (by kernel_rfl) h0.tail
  intro p hp
  rcases List.mem_cons.1 hp with rfl | hp
  · exact gd_of_tab (by kernel_rfl) h1 (by decide)
  · rw [List.mem_singleton.1 hp]
    exact gd_of_tab (by kernel_rfl) h2 (by decide)
end Go.Proofs.YtmiongjabbpmkaaDoor

namespace Go.Ax
open Go Go.RowKit
theorem holds_tied_goes (Lk : Looks) {p : Pinned} {s : OpenSpec} {c : OpenClaim} (kinds : List LaidKind) (tests : Bool) (har : Bool × String) (lk : Bool)
    (hc : c.holds p s) (hw : c.wfByText s = true) (htie : c.laidByTextAt Lk p kinds tests)
    (hst : c.start = .entering) (hnb : c.noBlocks = false ∧ c.again = false) (hm : p.checked.prog.mainIs = some (har.1, har.2.toList)) (hn : (!har.1 && har.2.isEmpty && !lk) = false)
    (hl : ∀ f fn, p.checked.prog.funcNamed c.func = some f → p.checked.prog.funcs[f]? = some fn → lk = p.checked.prog.looks [] ∧ ∀ (j : Nat) t, fn.params[j]? = some t → p.checked.prog.wantsStandIn t = false)
    (hg : true = c.goesBy p.checked.prog) :
    Claim7.holds p (.plain s) { stood := { row := c, standIns := [], harness := har, looks := lk }, kinds := [], alts := [], goes := true, laidByText := true, laidKinds := kinds, laidTests := tests, laidLooks := Lk } := by
  have h6 : ∀ r : OpenClaim, Claim7.isSixth { stood := { row := r, standIns := [], harness := har, looks := lk }, kinds := [] } = false := fun r => by simpa [Claim7.isSixth] using hn
  exact ⟨Claim7.tied_new_at Lk kinds tests (Claim7.new_of_sixth hc har lk hst hnb hm (h6 c) hl) hw, (fun D hD => by cases hD), htie, (fun h => by cases h), hg⟩
end Go.Ax

namespace Go.Ax
open Go Go.RowKit
theorem law_leaving_laid_s {K : Checked} {g : Nat} {fn : Func} {s : ChangeSpec} {bt : TypeId} {laid : List (String × DataW Unit)} (own : ownKnob K.prog.godebug = none) (noInit : K.prog.inits.idxOf? g = none) (hfn : K.prog.funcs[g]? = some fn)
    (hl : laidOutB K.prog = true) (hp : (fn.params.toList.all fun t => K.prog.readableRec t && decide (t < K.prog.types.size)) = true) (hres : fn.resultTypes = #[bt]) (hbt : K.prog.underlying bt = some .bool) (hv : s.vars = [])
    (hspec : ∀ (H : Type) (ds : List (DataW H)), ds.length = fn.params.toList.length → s.fn H ds = { results := [.lit (.bool true)], args := ds })
    (contract : ∀ (H : Type) (enc : TypeId × Value → H) (W : World) (base : Nat) (args : Array Value) (ds : List (DataW H)) (ps : List MemPlace), DataW.TrodAll enc K.prog W 0 (fun _ => true) true fn.params.toList args.toList ds ps → (∀ (j : Nat) t v, fn.params[j]? = some t → args[j]? = some v → Value.okWide K.prog W .any base t v) → laidMetH K.prog laid W →
      CallsL (besideJ K.prog) g args W fun e w' => e = .returned (.bool true) ∧ Below W.heap.size W w')
    (os : Os) (started : os.Started) (H : Type) (enc : TypeId × Value → H)
    (witness : ∃ (w : World) (tape : Tape) (i : Input), w.os = os ∧ (w.forCall tape i).Shaped K.prog ∧ i.vars = [] ∧ Input.okWide K.prog (w.forCall tape i) .any w.heap.size g i ∧
      ((s.pre enc K.prog fn [] false (w.forCall tape i).memory i.args ∧ laidMetH K.prog laid (w.forCall tape i).memory) ∧ sizedMet enc K.prog fn (OpenSpec.ofChange s) false (w.forCall tape i).memory i.args) ∧ ({} : Assume).holds K.prog (lone (Frame.enter K.prog g i.args .normal) [] (w.forCall tape i))) :
    ReturnsInLeavingWide {} K os g .any (fun w args => (s.pre enc K.prog fn [] false w args ∧ laidMetH K.prog laid w) ∧ sizedMet enc K.prog fn (OpenSpec.ofChange s) false w args) (s.post enc K.prog fn false true false false) := by
  refine returnsInLeavingWide_of_good own started witness ?_
  intro w tape i _ _ _ hok hpre hholds
  obtain ⟨_, _, _, fn', hfn', _, _, _, _, hval⟩ := hok
  have e : fn' = fn := Option.some.inj (hfn'.symm.trans hfn)
  subst e
  obtain ⟨⟨⟨ds, gs, before, hw, hc⟩, hL⟩, hz⟩ := hpre
  have hw' := DataW.Whole.of_heap (w' := w.forCall tape i) (by rfl) hw
  have hL' : laidMetH K.prog laid (w.forCall tape i) := laidMetH.of_heap (by rfl) hL
  have hw2 := hw'
  obtain ⟨p, q, hA, _⟩ := hw2
  obtain ⟨M, last, o, w', t', h1, h2, h3, h4⟩ := (contract H enc (w.forCall tape i) w.heap.size i.args ds p hA hval hL').good (Post := fun v W' => s.post enc K.prog fn' false true false false (w.forCall tape i) i.args v W') noInit
    (fun e W' he => ⟨_, he.1, law_post hv hl hp hres hbt (hspec H) hw' he.2⟩) (by rw [hfn]; rfl)
  exact ⟨M, last, o, w', t', h1, h2, h3, h4.mono fun v hp => ChangeSpec.post_blind hp⟩
end Go.Ax
