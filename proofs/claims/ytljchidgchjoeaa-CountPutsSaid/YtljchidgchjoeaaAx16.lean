/- The abstract executor: laws whose arguments hold slices of numbers. -/
import Derived.Test.YtljchidgchjoeaaAx15
import Derived.ChangeSlices
namespace Go.Ax
open Go Go.RowKit

section
variable {H : Type} {enc : TypeId × Value → H} {P : Program} {w : World} {spare : Nat → Bool} {held : Bool}

theorem wf_ok {k : IntKind} {n : Int} (h : (Lit.int k n).wf = true) : okI k n := by
  simp only [Lit.wf, Bool.and_eq_true] at h
  exact ⟨of_decide_eq_true h.1, of_decide_eq_true h.2⟩

/-- A slice of numbers that comes in. -/
theorem lies_of_trod {t e : TypeId} {k : IntKind} {fuel : Nat} {v : Value} {x : DataW H × List MemPlace} (ht : P.underlying t = some (.slice e)) (he : P.underlying e = some (.int k)) (hc : P.cellsOf e = 1)
    (h : DataW.trod enc P w 0 spare held fuel t [v] = some x) : ∃ M, Lies w v k M := by
  rcases Go.ChangeShapes.open_ints ht he hc h with ⟨hv, _⟩ | ⟨a, len, cap, zs, hv, _, hle, hcap, hlen, _, hcell, hwf⟩
  · cases hv
    exact ⟨[], none, 0, rfl, Nat.le_refl _, by omega, by simp, 0, 0, .inl rfl⟩
  · cases hv
    have hz : len ≤ zs.length := by rw [hlen]; split <;> omega
    have hl : (zs.take len).length = len := by simp; omega
    refine ⟨zs.take len, some a, cap, by rw [hl], by omega, by unfold maxLen at hcap; omega, fun n hn => wf_ok (hwf n (List.mem_of_mem_take hn)), a.block, a.off, ?_⟩
    by_cases h0 : len = 0
    · subst h0; exact .inl (by simp)
    · have h1 := hcell 0 (by omega)
      have e0 : a.add 0 = a := rfl
      rw [e0] at h1
      unfold World.cell? at h1
      split at h1
      · rename_i c t' fr hh
        split at h1
        · cases h1
        · rename_i hs
          have hs : a.spot = none := by simpa using hs
          obtain ⟨b, off, sp⟩ := a
          dsimp only at hs hh h1 ⊢
          subst hs
          have hat : ∀ i, i < len → c[off + i]? = some (.int k (zs.getD i 0)) := fun i hi => by
            have := hcell i (by omega)
            unfold World.cell? at this
            have eb : (Addr.add ⟨b, off, none⟩ i).block = b := by unfold Addr.add; split <;> rfl
            have eo : (Addr.add ⟨b, off, none⟩ i).off = off + i := by unfold Addr.add; split <;> simp_all
            have es : (Addr.add ⟨b, off, none⟩ i).spot = none := by unfold Addr.add; split <;> rfl
            rw [eb, hh] at this
            simpa [es, eo] using this
          have hsz : off + len ≤ c.toList.length := by
            have := hat (len - 1) (by omega)
            obtain ⟨q, _⟩ := Array.getElem?_eq_some_iff.1 this
            rw [Array.length_toList]; omega
          refine .inr ⟨rfl, c.toList.take off, c.toList.drop (off + len), t', fr, by rw [List.length_take]; omega, ?_⟩
          rw [hh]
          have key : (c.toList.drop off).take len = (zs.take len).map (Value.int k) := by
            refine List.ext_getElem (by simp at hsz ⊢; omega) fun i h1 h2 => ?_
            have hi : i < len := by simp at h1; omega
            have := hat i hi
            rw [← Array.getElem?_toList, List.getElem?_eq_some_iff] at this
            obtain ⟨q1, q2⟩ := this
            simp only [List.getElem_take, List.getElem_drop, List.getElem_map]
            rw [q2]
            have : i < zs.length := by omega
            simp [this]
          have e : c.toList = c.toList.take off ++ ((zs.take len).map (Value.int k) ++ c.toList.drop (off + len)) := by
            rw [← key, ← List.drop_drop, List.take_append_drop, List.take_append_drop]
          rw [← e]
      · cases h1

/-- An entry by its type. -/
def entOf (P : Program) (t : TypeId) : Option SE := match P.underlying t with
  | some (.int k) => some (.w k)
  | some .bool => some .b
  | some (.slice e) => match P.underlying e with
    | some (.int k) => match Nat.beq (P.cellsOf e) 1 with | true => some (.s k) | false => none
    | _ => none
  | _ => none
theorem ent_lies {t : TypeId} {se : SE} {fuel : Nat} {v : Value} {x : DataW H × List MemPlace} (hs : entOf P t = some se) (h : DataW.trod enc P w 0 spare held fuel t [v] = some x) : ∃ es, ArgLies w se es v := by
  unfold entOf at hs
  split at hs
  · rename_i k hu
    cases hs
    cases fuel with
    | zero => cases h
    | succ n =>
      unfold DataW.trod at h
      rw [hu] at h
      cases v with
      | int k' n' =>
        simp only at h
        split at h
        · rename_i hq
          obtain ⟨rfl, hq⟩ := hq
          exact ⟨[n'], n', rfl, rfl, wf_ok hq⟩
        · cases h
      | _ => simp at h
  · rename_i hu
    cases hs
    cases fuel with
    | zero => cases h
    | succ n =>
      unfold DataW.trod at h
      rw [hu] at h
      cases v with
      | bool c => exact ⟨[iteI c 1 0], c, rfl, rfl⟩
      | _ => simp at h
  · rename_i e hu
    split at hs
    · rename_i k he
      split at hs
      · rename_i hc
        cases hs
        exact lies_of_trod hu he (Nat.eq_of_beq_eq_true hc) h
      · cases hs
    · cases hs
  · cases hs

/-- A struct's fields, each of one cell. -/
def fieldsOf (P : Program) : Nat → List Field → Option (List SE)
  | _, [] => some []
  | i, f :: fs => match Nat.beq f.offset i && Nat.beq (P.cellsOf f.type) 1, entOf P f.type, fieldsOf P (i + 1) fs with
    | true, some e, some es => some (e :: es)
    | _, _, _ => none
def shEOf (P : Program) (t : TypeId) : Option SH := match P.underlying t with
  | some (.struct fs) => match rowSh P t with
    | some (.l k n) => some (.one (.l k n))
    | _ => match fieldsOf P 0 fs.toList, Nat.beq fs.toList.length (P.cellsOf t) with | some es, true => some (.grp es) | _, _ => none
  | some (.array _ _) => match rowSh P t with
    | some (.l k n) => some (.one (.l k n))
    | _ => none
  | _ => match entOf P t with | some e => some (.one e) | none => none
def shsE (P : Program) : List TypeId → Option (List SH)
  | [] => some []
  | t :: ts => match shEOf P t, shsE P ts with | some s, some l => some (s :: l) | _, _ => none

theorem fields_lies {cs : List Value} {fuel : Nat} : ∀ {fs : List Field} {i : Nat} {es : List SE} {xs : List (DataW H × List MemPlace)}, fieldsOf P i fs = some es → i + fs.length = cs.length →
    (fs.mapM fun f => DataW.trod enc P w 0 spare held fuel f.type ((cs.drop f.offset).take (P.cellsOf f.type))) = some xs → es.length = fs.length ∧ ∃ ess : List (List Int), ess.length = es.length ∧ ∀ (j : Nat) (e : SE), es[j]? = some e → ∃ v, cs[i + j]? = some v ∧ ArgLies w e (ess.getD j []) v
  | [], i, es, xs, h, _, _ => by cases h; exact ⟨rfl, [], rfl, fun j e hj => by cases hj⟩
  | f :: fs, i, es, xs, h, hl, hx => by
    simp only [fieldsOf] at h
    split at h
    · rename_i e es' hb he hes
      cases h
      simp only [Bool.and_eq_true] at hb
      have ho := Nat.eq_of_beq_eq_true hb.1
      have hc := Nat.eq_of_beq_eq_true hb.2
      rw [List.mapM_cons] at hx
      simp only [List.length_cons] at hl
      have hi : i < cs.length := by omega
      have hcell : (cs.drop f.offset).take (P.cellsOf f.type) = [cs[i]] := by
        rw [ho, hc, List.drop_eq_getElem_cons hi, List.take_succ_cons, List.take_zero]
      rw [hcell] at hx
      cases h1 : DataW.trod enc P w 0 spare held fuel f.type [cs[i]] with
      | none => rw [h1] at hx; simp at hx
      | some y =>
        rw [h1] at hx
        cases h2 : (fs.mapM fun f => DataW.trod enc P w 0 spare held fuel f.type ((cs.drop f.offset).take (P.cellsOf f.type))) with
        | none => rw [h2] at hx; simp at hx
        | some ys =>
          obtain ⟨es0, q1⟩ := ent_lies he h1
          obtain ⟨q2, ess, q3, q4⟩ := fields_lies hes (by omega) h2
          refine ⟨by simp [q2], es0 :: ess, by simp [q3], fun j e' hj => ?_⟩
          cases j with
          | zero => simp at hj; subst hj; exact ⟨cs[i], by simp [hi], q1⟩
          | succ j =>
            obtain ⟨v, r1, r2⟩ := q4 j e' (by simpa using hj)
            exact ⟨v, by rw [show i + (j + 1) = i + 1 + j by omega]; exact r1, r2⟩
    · cases h

theorem row_lies {r : Reach} {base : Nat} {t : TypeId} {k : IntKind} {n : Nat} {v : Value} (hu : (∃ fs, P.underlying t = some (.struct fs)) ∨ ∃ m e, P.underlying t = some (.array m e)) (hs : rowSh P t = some (.l k n)) (hv : Value.okWide P w r base t v) : ∃ es, ArgLies w (.l k n) es v := by
  have h : shOf P t = some (.l k n) := by
    unfold shOf
    rcases hu with ⟨fs, hu⟩ | ⟨m, e, hu⟩ <;> rw [hu] <;> exact hs
  obtain ⟨es, h1, h2⟩ := shOf_R h hv
  obtain ⟨vs, rfl, h3⟩ := h2
  refine ⟨es, h1.1, ?_, h1.2⟩
  have : vs = es.map (Value.int k) := by
    clear h1 h hs hv
    induction es generalizing vs with
    | nil => cases vs with | nil => rfl | cons _ _ => exact h3.elim
    | cons e es ih =>
      cases vs with
      | nil => exact h3.elim
      | cons v vs =>
        obtain ⟨⟨_, hv⟩, h3⟩ := h3
        rw [List.map_cons, ← ih vs h3, hv]
        rfl
  rw [this]

theorem shE_lies {r : Reach} {base : Nat} {t : TypeId} {sh : SH} {v : Value} {d : DataW H} {ps : List MemPlace} (hs : shEOf P t = some sh) (hv : Value.okWide P w r base t v) (ht : DataW.Trod enc P w 0 spare held t v d ps) :
    ∃ (flat : List Value) (ess : List (List Int)), flat.length = sh.ents.length ∧ (match sh with | .one _ => flat = [v] | .grp _ => v = .agg flat.toArray) ∧ ess.length = sh.ents.length ∧ ∀ (j : Nat) (e : SE), sh.ents[j]? = some e → ∃ x, flat[j]? = some x ∧ ArgLies w e (ess.getD j []) x := by
  have single : ∀ {e : SE}, (∃ es, ArgLies w e es v) → ∃ (flat : List Value) (ess : List (List Int)), flat.length = (SH.one e).ents.length ∧ flat = [v] ∧ ess.length = (SH.one e).ents.length ∧ ∀ (j : Nat) (e' : SE), (SH.one e).ents[j]? = some e' → ∃ x, flat[j]? = some x ∧ ArgLies w e' (ess.getD j []) x := fun {e} ⟨es, h⟩ =>
    ⟨[v], [es], rfl, rfl, rfl, fun j e' hj => by
      cases j with
      | zero => simp [SH.ents] at hj; subst hj; exact ⟨v, rfl, h⟩
      | succ j => cases hj⟩
  unfold shEOf at hs
  split at hs
  · rename_i fs hu
    split at hs
    · rename_i k n hr
      cases hs
      exact single (row_lies (.inl ⟨fs, hu⟩) hr hv)
    · split at hs
      · rename_i es hes hcl
        cases hs
        have hcl := Nat.eq_of_beq_eq_true hcl
        unfold Value.okWide at hv
        rw [hu] at hv
        obtain ⟨cs, rfl, hsz, _⟩ := hv
        obtain ⟨fuel, ht⟩ := ht
        cases fuel with
        | zero => cases ht
        | succ m =>
          have e : (Value.agg cs).cells.toList = cs.toList := rfl
          rw [e] at ht
          unfold DataW.trod at ht
          rw [hu] at ht
          have ht : (if cs.toList.length = P.cellsOf t then (fs.toList.mapM fun f => DataW.trod enc P w 0 spare held m f.type ((cs.toList.drop f.offset).take (P.cellsOf f.type))).map fun xs => ((.agg (xs.map (·.1)) : DataW H), xs.flatMap (·.2)) else none) = some (d, ps) := by
            cases hq : cs.toList with
            | nil => rw [hq] at ht; exact ht
            | cons a l =>
              rw [hq] at ht
              cases l <;> cases a <;> exact ht
          split at ht
          · rename_i hlen
            obtain ⟨xs, hxs, _⟩ := Option.map_eq_some_iff.1 ht
            obtain ⟨q1, ess, q2, q3⟩ := fields_lies (i := 0) hes (by rw [hlen]; omega) hxs
            refine ⟨cs.toList, ess, ?_, by simp, q2, fun j e hj => ?_⟩
            · show cs.toList.length = es.length
              rw [hlen, q1]; exact hcl.symm
            · obtain ⟨v, r1, r2⟩ := q3 j e hj
              exact ⟨v, by rw [Nat.zero_add] at r1; exact r1, r2⟩
          · cases ht
      · cases hs
  · rename_i m e hu
    split at hs
    · rename_i k n hr
      cases hs
      exact single (row_lies (.inr ⟨m, e, hu⟩) hr hv)
    · cases hs
  · split at hs
    · rename_i e he
      cases hs
      obtain ⟨fuel, ht⟩ := ht
      have hna : ∀ cs, v ≠ .agg cs := fun cs e => by
        subst e
        unfold Value.okWide at hv
        unfold entOf at he
        split at he
        · rename_i k hu; rw [hu] at hv; unfold Cell.okWide at hv; rw [hu] at hv; simp [Cell.ok, hu] at hv
        · rename_i hu; rw [hu] at hv; unfold Cell.okWide at hv; rw [hu] at hv; simp [Cell.ok, hu] at hv
        · rename_i e' hu; rw [hu] at hv; unfold Cell.okWide at hv; rw [hu] at hv; simp [Cell.ok, hu] at hv
        · cases he
      have hcv : v.cells.toList = [v] := by
        cases v with
        | agg cs => exact absurd rfl (hna cs)
        | _ => rfl
      rw [hcv] at ht
      exact single (ent_lies he ht)
    · cases hs

theorem shsE_lies {r : Reach} {base : Nat} : ∀ {ts : List TypeId} {shs : List SH} {vs : List Value} {ds : List (DataW H)} {ps : List MemPlace}, shsE P ts = some shs → DataW.TrodAll enc P w 0 spare held ts vs ds ps →
    (∀ (j : Nat) (t : TypeId) (v : Value), ts[j]? = some t → vs[j]? = some v → Value.okWide P w r base t v) →
    ∃ (flv : List Value) (ess : List (List Int)), OpnV shs vs flv ∧ ess.length = (entsQ shs).length ∧ flv.length = (entsQ shs).length ∧ ∀ (i : Nat) (sh : SE), (entsQ shs)[i]? = some sh → ∃ v, flv[i]? = some v ∧ ArgLies w sh (ess.getD i []) v
  | [], shs, [], ds, ps, h, _, _ => by cases h; exact ⟨[], [], rfl, rfl, rfl, fun i sh hi => by cases hi⟩
  | [], _, _ :: _, ds, _, _, h, _ => by cases ds <;> exact False.elim h
  | _ :: _, _, [], ds, _, _, h, _ => by cases ds <;> exact False.elim h
  | _ :: _, _, _ :: _, [], _, _, h, _ => False.elim h
  | t :: ts, shs, v :: vs, d :: ds, ps, h, ht, hv => by
    simp only [shsE] at h
    split at h
    · rename_i s l h1 h2
      cases h
      obtain ⟨p, q, ht1, ht2, _⟩ := ht
      obtain ⟨flat, ess, a1, a2, a3, a4⟩ := shE_lies h1 (hv 0 t v rfl rfl) ht1
      obtain ⟨flv, ess', b1, b2, b3, b4⟩ := shsE_lies h2 ht2 fun j t v hj hv' => hv (j + 1) t v (by simpa using hj) (by simpa using hv')
      have hent : entsQ (s :: l) = s.ents ++ entsQ l := by simp [entsQ]
      refine ⟨flat ++ flv, ess ++ ess', ?_, by rw [hent]; simp [a3, b2], by rw [hent]; simp [a1, b3], fun i sh hi => ?_⟩
      · cases s with
        | one e => obtain rfl : flat = [v] := a2; exact ⟨flv, rfl, b1⟩
        | grp es => exact ⟨flat, flv, rfl, a1, a2, b1⟩
      · rw [hent] at hi
        by_cases hlt : i < s.ents.length
        · rw [List.getElem?_append_left hlt] at hi
          obtain ⟨x, q1, q2⟩ := a4 i sh hi
          refine ⟨x, by rw [List.getElem?_append_left (by omega)]; exact q1, ?_⟩
          rw [List.getD_eq_getElem?_getD, List.getElem?_append_left (by omega), ← List.getD_eq_getElem?_getD]
          exact q2
        · rw [List.getElem?_append_right (by omega)] at hi
          obtain ⟨x, q1, q2⟩ := b4 _ sh hi
          refine ⟨x, by rw [List.getElem?_append_right (by omega), a1]; exact q1, ?_⟩
          rw [List.getD_eq_getElem?_getD, List.getElem?_append_right (by omega), ← List.getD_eq_getElem?_getD, a3]
          exact q2
    · cases h

theorem yes_holds {v : Value} {w' : World} {lo : Nat} (h : (RS.p (.c (.b true))).Holds w' lo v) : v = .bool true := by
  obtain ⟨flat, bs, h1, h2, _⟩ := h
  obtain rfl : flat = [v] := h1
  obtain ⟨x, y, _, h3, _⟩ := h2
  exact h3.1
theorem yes_of {m : Mem} {v : AV} (h : v = .one (.sb true) ∨ v = .one (.lb true)) : (RS.p (.c (.b true))).sat m v := by
  rcases h with rfl | rfl
  · exact ⟨[.sb true], [], ⟨_, rfl, rfl⟩, ⟨[], [], rfl, ⟨rfl, rfl⟩, rfl⟩, List.nodup_nil⟩
  · exact ⟨[.lb true], [], ⟨_, rfl, rfl⟩, ⟨[], [], rfl, ⟨rfl, rfl⟩, rfl⟩, List.nodup_nil⟩

/-- A law's contract, off its run from a state of its own. -/
theorem law_s {C : Cfg} (hC : COk C) {G : List (Nat × List SV)} (hG : C.gd = G) (hgl : C.gl = glFrom 0 G) {g : Nat} {fn : Func} (hfn : FnOk C.P g fn) {shs : List SH} (hsh : shsE C.P fn.params.toList = some shs) (n : Nat)
    (hrun : ∀ Ms : Nat → List Int, okE Ms 0 (entsQ shs) → ∃ o, callA C false n fn (groupQ shs (argsE G.length Ms 0 (entsQ shs))) (memX G (blksE G.length Ms 0 (entsQ shs))) = o ∧ o.sat fun v _ => v = .one (.sb true) ∨ v = .one (.lb true))
    {W : World} {base : Nat} {args : Array Value} {ds : List (DataW H)} {ps : List MemPlace} (hT : DataW.TrodAll enc C.P W 0 (fun _ => true) true fn.params.toList args.toList ds ps)
    (hval : ∀ (j : Nat) t v, fn.params[j]? = some t → args[j]? = some v → Value.okWide C.P W .any base t v) (hgd : GD G W.heap.size W) :
    CallsL C.J g args W fun e w' => e = .returned (.bool true) ∧ Below W.heap.size W w' := by
  subst hG
  obtain ⟨flv, ess, h1, h2, h3, h4⟩ := shsE_lies hsh hT fun j t v ht hv => hval j t v (by simpa using ht) (by simpa using hv)
  have mono : ∀ {K K' : AV → Mem → Prop} (o : Out), (∀ v m, K v m → K' v m) → o.sat K → o.sat K' := by
    intro K K' o hk
    induction o with
    | bad _ => exact id
    | need p o ih => exact fun h => ⟨h.1, ih h.2⟩
    | br c t f iht ihf => exact fun h => ⟨fun e => iht (h.1 e), fun e => ihf (h.2 e)⟩
    | both a b iha ihb => exact fun h => ⟨iha h.1, ihb h.2⟩
    | done v m => exact hk v m
  have := fok_core hC hgl hfn (shs := shs) (conds := fun _ => []) (T := fun _ => .one (.p (.c (.b true)))) n (fun Ms hok _ => by
    obtain ⟨o, ho, hs⟩ := hrun Ms hok
    exact ⟨o, ho, mono o (fun v m h => yes_of h) hs⟩) hgd h1 h2 h3 h4 trivial
  refine this.mono fun e w' ⟨v, he, hb, hv⟩ => ⟨?_, hb⟩
  rw [he, yes_holds hv]

end

/-- A law without package-level variables, slices among its arguments. -/
theorem law_lifted_s {K : Checked} {g : Nat} {fn : Func} {s : ChangeSpec} {bt : TypeId} (own : ownKnob K.prog.godebug = none) (noInit : K.prog.inits.idxOf? g = none) (hfn : K.prog.funcs[g]? = some fn)
    (hl : laidOutB K.prog = true) (hp : (fn.params.toList.all fun t => K.prog.readableRec t && decide (t < K.prog.types.size)) = true) (hres : fn.resultTypes = #[bt]) (hbt : K.prog.underlying bt = some .bool) (hv : s.vars = [])
    (hspec : ∀ (H : Type) (ds : List (DataW H)), ds.length = fn.params.toList.length → s.fn H ds = { results := [.lit (.bool true)], args := ds })
    (contract : ∀ (H : Type) (enc : TypeId × Value → H) (W : World) (base : Nat) (args : Array Value) (ds : List (DataW H)) (ps : List MemPlace), DataW.TrodAll enc K.prog W 0 (fun _ => true) true fn.params.toList args.toList ds ps → (∀ (j : Nat) t v, fn.params[j]? = some t → args[j]? = some v → Value.okWide K.prog W .any base t v) →
      CallsL (loneJ K.prog) g args W fun e w' => e = .returned (.bool true) ∧ Below W.heap.size W w')
    (os : Os) (started : os.Started) (H : Type) (enc : TypeId × Value → H)
    (witness : ∃ (w : World) (tape : Tape) (i : Input), w.os = os ∧ (w.forCall tape i).Shaped K.prog ∧ i.vars = [] ∧ Input.okWide K.prog (w.forCall tape i) .any w.heap.size g i ∧
      s.pre6 enc K.prog fn [] false (w.forCall tape i).memory i.args ∧ ({} : Assume).holds K.prog (lone (Frame.enter K.prog g i.args .normal) [] (w.forCall tape i))) :
    ReturnsInHanded {} K os g .any (s.pre6 enc K.prog fn [] false) (s.post enc K.prog fn false true false false) := by
  refine returnsInHanded_of_change (C := K) own started noInit hfn witness ?_
  intro W base args ds gs before hval hW _ _
  have hW' := hW
  obtain ⟨p, q, hA, _⟩ := hW'
  refine (contract H enc W base args ds p hA hval).alone.mono ?_
  rintro e W' ⟨rfl, hb⟩
  exact ⟨_, rfl, law_post hv hl hp hres hbt (hspec H) hW hb⟩

/-- The same, with package-level variables. -/
theorem law_lifted_laid_s {K : Checked} {g : Nat} {fn : Func} {s : ChangeSpec} {bt : TypeId} {laid : List (String × DataW Unit)} (own : ownKnob K.prog.godebug = none) (noInit : K.prog.inits.idxOf? g = none) (hfn : K.prog.funcs[g]? = some fn)
    (hl : laidOutB K.prog = true) (hp : (fn.params.toList.all fun t => K.prog.readableRec t && decide (t < K.prog.types.size)) = true) (hres : fn.resultTypes = #[bt]) (hbt : K.prog.underlying bt = some .bool) (hv : s.vars = [])
    (hspec : ∀ (H : Type) (ds : List (DataW H)), ds.length = fn.params.toList.length → s.fn H ds = { results := [.lit (.bool true)], args := ds })
    (contract : ∀ (H : Type) (enc : TypeId × Value → H) (W : World) (base : Nat) (args : Array Value) (ds : List (DataW H)) (ps : List MemPlace), DataW.TrodAll enc K.prog W 0 (fun _ => true) true fn.params.toList args.toList ds ps → (∀ (j : Nat) t v, fn.params[j]? = some t → args[j]? = some v → Value.okWide K.prog W .any base t v) → laidMetH K.prog laid W →
      CallsL (loneJ K.prog) g args W fun e w' => e = .returned (.bool true) ∧ Below W.heap.size W w')
    (os : Os) (started : os.Started) (H : Type) (enc : TypeId × Value → H)
    (witness : ∃ (w : World) (tape : Tape) (i : Input), w.os = os ∧ (w.forCall tape i).Shaped K.prog ∧ i.vars = [] ∧ Input.okWide K.prog (w.forCall tape i) .any w.heap.size g i ∧
      ((s.pre enc K.prog fn [] false (w.forCall tape i).memory i.args ∧ laidMetH K.prog laid (w.forCall tape i).memory) ∧ sizedMet enc K.prog fn (OpenSpec.ofChange s) false (w.forCall tape i).memory i.args) ∧ ({} : Assume).holds K.prog (lone (Frame.enter K.prog g i.args .normal) [] (w.forCall tape i))) :
    ReturnsInHanded {} K os g .any (fun w args => (s.pre enc K.prog fn [] false w args ∧ laidMetH K.prog laid w) ∧ sizedMet enc K.prog fn (OpenSpec.ofChange s) false w args) (s.post enc K.prog fn false true false false) := by
  refine returnsInHanded_of_change_and (C := K) (X := fun w _ => laidMetH K.prog laid w) (fun _ _ _ hh h => laidMetH.of_heap hh h) own started noInit hfn witness ?_
  intro W base args ds gs before hval hW _ _ hL _
  have hW' := hW
  obtain ⟨p, q, hA, _⟩ := hW'
  refine (contract H enc W base args ds p hA hval hL).alone.mono ?_
  rintro e W' ⟨rfl, hb⟩
  exact ⟨_, rfl, law_post hv hl hp hres hbt (hspec H) hW hb⟩

end Go.Ax
