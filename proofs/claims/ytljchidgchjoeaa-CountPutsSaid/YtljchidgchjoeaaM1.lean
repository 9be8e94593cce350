/- What the functions of all layers share: the configuration without package-level variables; numbers; results. -/
import Derived.Test.YtljchidgchjoeaaAx16
import Derived.Test.YtljchidgchjoeaaRows
namespace Go.Proofs.Ytljchidgchjoeaa
open Go Go.Ax

abbrev PSs := List (Nat × (List AV → Mem → Option (List Prop × AV)))
abbrev FSs := List (Nat × (List AV → Mem → Option (List Prop × RT)))
abbrev LQs := List (Nat × Code × (TM → Mem → Option ((AE → TM → Mem → Out) → Out)))
abbrev EXs := List (Nat × (List AV → Option (List Prop × AV)))
abbrev SPs := List (Nat × Nat × List Int)
/-- In which judgement the functions are told: of whatever company. -/
class JW where
  J : Judg Try.prog
  hJ : J.lvl ≤ 2
/-- The same, of the first level. -/
class JN extends JW where
  hN : J.lvl ≤ 1
/-- Alone. -/
@[reducible] noncomputable def aloneN : JN := { J := loneJ Try.prog, hJ := Nat.zero_le _, hN := Nat.zero_le _ }
set_option linter.unusedSectionVars false
section
variable [JW]
def gdM : List (Nat × List SV) := []
noncomputable def cfgG (lit : Bool) (lv : Nat) (sg : List Nat) (fns : List (Nat × Func)) (ps : PSs) (fs : FSs) (lq : LQs) (sp : SPs) (ex : EXs) : Cfg := { P := Try.prog, J := JW.J, fns := fns, gl := glFrom 0 gdM, gd := gdM, ps := ps, fs := fs, lq := lq, sp := sp, ex := ex, lvl := lv, lit := lit, sg := sg }
noncomputable abbrev cfgA (lit : Bool) (lv : Nat) (fns : List (Nat × Func)) (ps : PSs) (fs : FSs) (lq : LQs) (sp : SPs) (ex : EXs) : Cfg := cfgG lit lv [] fns ps fs lq sp ex
noncomputable abbrev cfgM (fns : List (Nat × Func)) (ps : PSs) (fs : FSs) (lq : LQs) (sp : SPs) : Cfg := cfgA false 2 fns ps fs lq sp []
/-- Where all lengths are literals. -/
noncomputable abbrev cfgL (fns : List (Nat × Func)) (ps : PSs) (fs : FSs) : Cfg := cfgA true 2 fns ps fs [] [] []
noncomputable abbrev cM : Cfg := cfgM [] [] [] [] []
omit [JW] in
theorem mixedM : Try.prog.follows .mixedOrders = true := by kernel_rfl
omit [JW] in
theorem FOk.cast {C C' : Cfg} {g : Nat} {F : List AV → Mem → Option (List Prop × RT)} (hP : C'.sig = C.sig) (hgl : C'.gl = C.gl) (hgd : C'.gd = C.gd) (h : FOk C g F) : FOk C' g F := by
  obtain ⟨h1, h2⟩ := h
  exact ⟨by rw [sig_P hP]; exact h1, fun args mem r conds hF hp B w0 w env vals hm ha => sig_calls hP (h2 args mem r conds hF hp B w0 w env vals (hm.cast hgl.symm hgd.symm) ha)⟩
omit [JW] in
theorem LoopQ.cast {C C' : Cfg} {bd : Code} {F : TM → Mem → Option ((AE → TM → Mem → Out) → Out)} (hP : C'.sig = C.sig) (hgl : C'.gl = C.gl) (hgd : C'.gd = C.gd) (h : LoopQ C bd F) : LoopQ C' bd F := by
  intro K k tm mem o hF hs B w0 env a w Q hr hk
  exact sig_loop hP (h K k tm mem o hF hs B w0 env a w Q (hr.cast hgl.symm hgd.symm) fun e tm' mem' env' a' w' q1 q2 q3 => hk e tm' mem' env' a' w' q1 (q2.cast hgl hgd) q3)
/-- What the model stands in for: told, and listing nothing that matters. -/
def ExAll (p : Nat × (List AV → Option (List Prop × AV))) : Prop := ExOk Try.prog p.1 p.2 ∧ ∀ l vals, NS l Try.prog (callFunc p.1 vals)
theorem cokA {lit : Bool} {lv : Nat} {sg : List Nat} (hl : JW.J.lvl ≤ lv) {fns : List (Nat × Func)} {ps : PSs} {fs : FSs} {lq : LQs} {sp : SPs} {ex : EXs}
    (h1 : ∀ p ∈ fns, FnOk Try.prog p.1 p.2) (h2 : ∀ p ∈ ps, PSOk cM p.1 p.2) (h3 : ∀ p ∈ fs, FOk cM p.1 p.2) (h4 : ∀ p ∈ lq, LoopQ cM p.2.1 p.2.2) (h5 : ∀ p ∈ ex, ExAll p) : COk (cfgG lit lv sg fns ps fs lq sp ex) :=
  ⟨mixedM, hl, fun p hp vals => (h5 p hp).2 _ vals, (fun p hp => by cases hp), h1, fun p hp => (h2 p hp).cast rfl rfl rfl, (fun p hp => by cases hp), fun p hp => (h5 p hp).1, (fun p hp => by cases hp), (fun p hp => LoopQ.cast (C := cM) (C' := cfgG lit lv sg fns ps fs lq sp ex) rfl rfl rfl (h4 p hp)), fun p hp => FOk.cast (C := cM) (C' := cfgG lit lv sg fns ps fs lq sp ex) rfl rfl rfl (h3 p hp)⟩
theorem cokM {fns : List (Nat × Func)} {ps : PSs} {fs : FSs} {lq : LQs} {sp : SPs}
    (h1 : ∀ p ∈ fns, FnOk Try.prog p.1 p.2) (h2 : ∀ p ∈ ps, PSOk cM p.1 p.2) (h3 : ∀ p ∈ fs, FOk cM p.1 p.2) (h4 : ∀ p ∈ lq, LoopQ cM p.2.1 p.2.2) : COk (cfgM fns ps fs lq sp) := cokA JW.hJ h1 h2 h3 h4 (fun p hp => by cases hp)
theorem cokL {fns : List (Nat × Func)} {ps : PSs} {fs : FSs}
    (h1 : ∀ p ∈ fns, FnOk Try.prog p.1 p.2) (h2 : ∀ p ∈ ps, PSOk cM p.1 p.2) (h3 : ∀ p ∈ fs, FOk cM p.1 p.2) : COk (cfgL fns ps fs) := cokA JW.hJ h1 h2 h3 (fun p hp => by cases hp) (fun p hp => by cases hp)
theorem upM {lit : Bool} {lv : Nat} {sg : List Nat} {fns : List (Nat × Func)} {ps : PSs} {fs : FSs} {lq : LQs} {sp : SPs} {ex : EXs} {g : Nat} {F : List AV → Mem → Option (List Prop × RT)} (h : FOk (cfgG lit lv sg fns ps fs lq sp ex) g F) : FOk cM g F := FOk.cast (C := cfgG lit lv sg fns ps fs lq sp ex) (C' := cM) rfl rfl rfl h
theorem upP {lit : Bool} {lv : Nat} {sg : List Nat} {fns : List (Nat × Func)} {ps : PSs} {fs : FSs} {lq : LQs} {sp : SPs} {ex : EXs} {g : Nat} {F : List AV → Mem → Option (List Prop × AV)} (h : PSOk (cfgG lit lv sg fns ps fs lq sp ex) g F) : PSOk cM g F := h.cast rfl rfl rfl
theorem upL {lit : Bool} {lv : Nat} {sg : List Nat} {fns : List (Nat × Func)} {ps : PSs} {fs : FSs} {lq : LQs} {sp : SPs} {ex : EXs} {bd : Code} {F : TM → Mem → Option ((AE → TM → Mem → Out) → Out)} (h : LoopQ (cfgG lit lv sg fns ps fs lq sp ex) bd F) : LoopQ cM bd F := LoopQ.cast (C := cfgG lit lv sg fns ps fs lq sp ex) (C' := cM) rfl rfl rfl h
/-- Of the first level. -/
noncomputable abbrev cfgN (sg : List Nat) (fns : List (Nat × Func)) (ps : PSs) (fs : FSs) (lq : LQs) (sp : SPs) (ex : EXs) : Cfg := cfgG false 1 sg fns ps fs lq sp ex
end
theorem cokN [JN] {sg : List Nat} {fns : List (Nat × Func)} {ps : PSs} {fs : FSs} {lq : LQs} {sp : SPs} {ex : EXs}
    (h1 : ∀ p ∈ fns, FnOk Try.prog p.1 p.2) (h2 : ∀ p ∈ ps, PSOk cM p.1 p.2) (h3 : ∀ p ∈ fs, FOk cM p.1 p.2) (h4 : ∀ p ∈ lq, LoopQ cM p.2.1 p.2.2) (h5 : ∀ p ∈ ex, ExAll p) : COk (cfgN sg fns ps fs lq sp ex) := cokA JN.hN h1 h2 h3 h4 h5
/-! ## Closed conditions -/

inductive Cd where
  | le (a b : Int)
  | lt (a b : Int)
  | nle (a b : Nat)
  | nlt (a b : Nat)
  | eq (a b : Nat)
  | tr
  | and (x y : Cd)
def Cd.prop : Cd → Prop
  | .le a b => a ≤ b
  | .lt a b => a < b
  | .nle a b => a ≤ b
  | .nlt a b => a < b
  | .eq a b => a = b
  | .tr => True
  | .and x y => x.prop ∧ y.prop
def Cd.bool : Cd → Bool
  | .le a b => decide (a ≤ b)
  | .lt a b => decide (a < b)
  | .nle a b => Nat.ble a b
  | .nlt a b => Nat.blt a b
  | .eq a b => Nat.beq a b
  | .tr => true
  | .and x y => x.bool && y.bool
theorem Cd.sound : ∀ {c : Cd}, c.bool = true → c.prop
  | .le a b, h => show a ≤ b from of_decide_eq_true (p := a ≤ b) h
  | .lt a b, h => show a < b from of_decide_eq_true (p := a < b) h
  | .nle _ _, h => Nat.le_of_ble_eq_true h
  | .nlt _ _, h => Nat.le_of_ble_eq_true h
  | .eq _ _, h => Nat.eq_of_beq_eq_true h
  | .tr, _ => trivial
  | .and _ _, h => by
    simp only [Cd.bool, Bool.and_eq_true] at h
    exact ⟨Cd.sound h.1, Cd.sound h.2⟩
def needC : List Cd → R2 → R2
  | [], o => o
  | c :: cs, o => .need c.prop (needC cs o)
def needO : List Cd → Out → Out
  | [], o => o
  | c :: cs, o => .need c.prop (needO cs o)
def Cd.all : List Cd → Bool
  | [] => true
  | c :: cs => match c.bool with | true => Cd.all cs | false => false
theorem needC_sat {K : RS → List Nat → List Nat → Prop} {o : R2} : ∀ {cs : List Cd}, Cd.all cs = true → o.sat K → (needC cs o).sat K
  | [], _, h => h
  | c :: cs, hc, h => by
    simp only [Cd.all] at hc
    split at hc
    · exact ⟨Cd.sound (by assumption), needC_sat hc h⟩
    · cases hc
theorem needO_sat {K : AV → Mem → Prop} {o : Out} : ∀ {cs : List Cd}, Cd.all cs = true → o.sat K → (needO cs o).sat K
  | [], _, h => h
  | c :: cs, hc, h => by
    simp only [Cd.all] at hc
    split at hc
    · exact ⟨Cd.sound (by assumption), needO_sat hc h⟩
    · cases hc
/-- A function that the model stands in for lists no more than its entry. -/
theorem ns_callExt {P : Program} {l : Nat} {f : FuncId} {fn : Func} {e : Array Value → Sem Value} (hf : P.funcs[f]? = some fn) (hname : (fn.name == "runtime.NumGoroutine") = false)
    (hb : fn.body.isNone = true) (hn : Extern.findNext fn = none) (he : Extern.find fn = some e) (h : ∀ args, NS l P (e args)) (args : Array Value) : NS l P (callFunc f args) := by
  have h1 : fn.name ≠ "runtime.NumGoroutine" := by simpa using hname
  have h2 : fn.body = none := by simpa using hb
  unfold callFunc
  show NS l P (match P.funcs[f]? with
    | none => stuck "call: no such function"
    | some fn => _ : Sem Next)
  simp only [hf, h1, h2, hn, he, beq_iff_eq, if_false, Option.isNone_none, if_true]
  exact NS.bind (ns_mark _ ⟨by simp, by simp⟩) fun _ => NS.bind (h args) fun _ => ns_pure _
theorem mem0 {α : Type} {Q : α → Prop} : ∀ p ∈ ([] : List α), Q p := by intro p hp; cases hp
theorem mem1 {α : Type} {P : α → Prop} {x : α} (h : P x) : ∀ p ∈ [x], P p := by intro p hp; simp only [List.mem_cons, List.not_mem_nil, or_false] at hp; subst hp; exact h
theorem memc {α : Type} {P : α → Prop} {x : α} {l : List α} (h : P x) (hl : ∀ p ∈ l, P p) : ∀ p ∈ x :: l, P p := by
  intro p hp
  rcases List.mem_cons.1 hp with rfl | hp
  · exact h
  · exact hl p hp
theorem ok64 {n : Int} (h1 : -9223372036854775808 ≤ n) (h2 : n ≤ 9223372036854775807) : okI .i64 n := by
  unfold okI; simp [IntKind.min, IntKind.max, IntKind.bits, IntKind.signed]; omega
theorem of_ok64 {n : Int} (h : okI .i64 n) : -9223372036854775808 ≤ n ∧ n ≤ 9223372036854775807 := by
  unfold okI at h; simp [IntKind.min, IntKind.max, IntKind.bits, IntKind.signed] at h; omega
theorem of_oku {n : Int} (h : okI .u64 n) : 0 ≤ n ∧ n ≤ 18446744073709551615 := by
  unfold okI at h; simp [IntKind.min, IntKind.max, IntKind.bits, IntKind.signed] at h; omega
theorem oku {n : Int} (h1 : 0 ≤ n) (h2 : n ≤ 18446744073709551615) : okI .u64 n := by
  unfold okI; simp [IntKind.min, IntKind.max, IntKind.bits, IntKind.signed]; omega
def one (l : List (List Int)) (i : Nat) : Int := (l.getD i []).getD 0 0
def at2 (l : List (List Int)) (i j : Nat) : Int := (l.getD i []).getD j 0

def i64? (x : AV) : Option Int := match x.int with
  | .l .i64 n => some n
  | .s .i64 n => some n
  | _ => none
theorem i64_fits {x : AV} {n : Int} (h : i64? x = some n) : x.fits (.one (.si .i64 n)) := by
  unfold i64? at h
  split at h
  · rename_i n' hx
    cases h
    cases x with
    | one s =>
      cases s <;> simp only [AV.int] at hx <;> first | cases hx
      exact .inr (.inl rfl)
    | agg l => cases hx
    | tup l => cases hx
  · rename_i n' hx
    cases h
    cases x with
    | one s =>
      cases s <;> simp only [AV.int] at hx <;> first | cases hx
      exact .inl rfl
    | agg l => cases hx
    | tup l => cases hx
  · cases h

theorem sel_at {L : List Int} {j : Nat} (h : j < L.length) : sel L (((0 : Nat) : Int) + (j : Int)) = L[j] := by
  unfold sel
  rw [show (((0 : Nat) : Int) + (j : Int)).toNat = j by omega]
  simp [h]
theorem met_b {c : Bool} {ns js : List Nat} (hn : ns.length = 1) (hj : js = []) : RS.met (.p (.c (.b c))) (.p (.c (.b c))) ns js := ⟨rfl, by
  match ns, hn with
  | [x], _ => exact ⟨trivial, trivial⟩, by subst hj; exact List.nodup_nil⟩
/-- One number appended behind n others. -/
def app1 (n : Nat) (L : List Int) (b : Int) (o : R2) : R2 := .need (n = L.length) (.need True (.need ((L ++ [b]).length ≤ 140737488355328 ∧ (L ++ [b]).length * 1 ≤ 140737488355328) o))
def appAll : List Int → Nat → List Int → (Nat → List Int → R2) → R2
  | [], n, L, f => f n L
  | b :: bs, n, L, f => app1 n L b (appAll bs (L ++ [b]).length (L ++ [b]) f)
theorem appAll_sat {K : RS → List Nat → List Nat → Prop} {f : Nat → List Int → R2} : ∀ (bs : List Int) (n : Nat) (L : List Int), n = L.length → L.length + bs.length ≤ 140737488355328 → (f (L ++ bs).length (L ++ bs)).sat K → (appAll bs n L f).sat K
  | [], n, L, hn, _, h => by subst hn; simpa [appAll] using h
  | b :: bs, n, L, hn, hl, h => by
    simp only [List.length_cons] at hl
    refine ⟨hn, trivial, by simp; omega, appAll_sat bs _ (L ++ [b]) rfl (by simp; omega) ?_⟩
    rw [List.append_assoc]
    exact h
def needR : List Prop → R2 → R2
  | [], o => o
  | p :: ps, o => .need p (needR ps o)
theorem needR_sat {K : RS → List Nat → List Nat → Prop} {o : R2} : ∀ {ps : List Prop}, allP ps → o.sat K → (needR ps o).sat K
  | [], _, h => h
  | _ :: _, hp, h => ⟨hp.1, needR_sat hp.2 h⟩
/-- One number behind none. -/
def app0 (b : Int) (o : R2) : R2 := .need (0 < [b].length) (.need (([] ++ [b]).length ≤ 140737488355328 ∧ ([] ++ [b]).length * 1 ≤ 140737488355328) o)
def appAll0 : List Int → (Nat → List Int → R2) → R2
  | [], f => f 0 []
  | b :: bs, f => app0 b (appAll bs ([] ++ [b]).length ([] ++ [b]) f)
def pickR (L : List Int) (n : Nat) (k : Int) (o : R2) : R2 := .need (0 ≤ k) (.need (k < (n : Int)) (.need (0 ≤ ((0 : Nat) : Int) + k) (.need (((0 : Nat) : Int) + k < (L.length : Int)) o)))
def pickAll (L : List Int) (n : Nat) : List Int → Nat → List Int → (Nat → List Int → R2) → R2
  | [], m, M, f => f m M
  | k :: ks, m, M, f => pickR L n k (app1 m M (sel L (((0 : Nat) : Int) + k)) (pickAll L n ks (M ++ [sel L (((0 : Nat) : Int) + k)]).length (M ++ [sel L (((0 : Nat) : Int) + k)]) f))
def pickAll0 (L : List Int) (n : Nat) : List Int → (Nat → List Int → R2) → R2
  | [], f => f 0 []
  | k :: ks, f => pickR L n k (app0 (sel L (((0 : Nat) : Int) + k)) (pickAll L n ks ([] ++ [sel L (((0 : Nat) : Int) + k)]).length ([] ++ [sel L (((0 : Nat) : Int) + k)]) f))
theorem pickAll_sat {K : RS → List Nat → List Nat → Prop} {f : Nat → List Int → R2} {L : List Int} : ∀ (ks : List Int) (m : Nat) (M : List Int), m = M.length → M.length + ks.length ≤ 140737488355328 → (∀ k ∈ ks, 0 ≤ k ∧ k < (L.length : Int)) → (f (M ++ ks.map fun k => sel L (((0 : Nat) : Int) + k)).length (M ++ ks.map fun k => sel L (((0 : Nat) : Int) + k))).sat K → (pickAll L L.length ks m M f).sat K
  | [], m, M, hm, _, _, h => by subst hm; simpa [pickAll] using h
  | k :: ks, m, M, hm, hl, hk, h => by
    simp only [List.length_cons] at hl
    obtain ⟨h1, h2⟩ := hk k (List.mem_cons_self ..)
    refine ⟨h1, h2, by omega, by omega, hm, trivial, by simp; omega, pickAll_sat ks _ _ rfl (by simp; omega) (fun k' hk' => hk k' (List.mem_cons_of_mem _ hk')) ?_⟩
    rw [List.append_assoc]
    exact h
theorem pickAll0_sat {K : RS → List Nat → List Nat → Prop} {f : Nat → List Int → R2} {L : List Int} : ∀ (ks : List Int), ks.length ≤ 140737488355328 → (∀ k ∈ ks, 0 ≤ k ∧ k < (L.length : Int)) → (f (ks.map fun k => sel L (((0 : Nat) : Int) + k)).length (ks.map fun k => sel L (((0 : Nat) : Int) + k))).sat K → (pickAll0 L L.length ks f).sat K
  | [], _, _, h => h
  | k :: ks, hl, hk, h => by
    simp only [List.length_cons] at hl
    obtain ⟨h1, h2⟩ := hk k (List.mem_cons_self ..)
    exact ⟨h1, h2, by omega, by omega, by simp, by simp, pickAll_sat ks _ _ rfl (by simp; omega) (fun k' hk' => hk k' (List.mem_cons_of_mem _ hk')) h⟩
theorem appAll0_sat {K : RS → List Nat → List Nat → Prop} {f : Nat → List Int → R2} : ∀ (bs : List Int), bs.length ≤ 140737488355328 → (f bs.length bs).sat K → (appAll0 bs f).sat K
  | [], _, h => h
  | b :: bs, hl, h => by
    simp only [List.length_cons] at hl
    exact ⟨by simp, by simp, appAll_sat bs _ _ rfl (by simp; omega) h⟩
def lenP (L : List Int) : Prop := L.length ≤ 140737488355328 ∧ L.length * 1 ≤ 140737488355328
theorem wrap8 (x : Int) : IntKind.u8.wrap x = x % 256 := by simp [IntKind.wrap, IntKind.bits, IntKind.signed]
theorem partQ_all (L : List Int) : partQ L 0 L.length = L := by rw [partQ_eq]; simp
def noO : Out := .done (.one (.lb false)) Mem.empty
def yesO : Out := .done (.one (.lb true)) Mem.empty
def sbO (b : Bool) : Out := .done (.one (.sb b)) Mem.empty
theorem eql_d {a b : Int} : cmpI .eql a b = decide (a = b) := by by_cases h : a = b <;> simp [cmpI, h]
end Go.Proofs.Ytljchidgchjoeaa
