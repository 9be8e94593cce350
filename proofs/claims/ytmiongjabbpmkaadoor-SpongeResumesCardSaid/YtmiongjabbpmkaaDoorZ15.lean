import Derived.Test.YtmiongjabbpmkaaDoorZ14
namespace Go.Proofs.YtmiongjabbpmkaaDoor
open Go Go.Ax
set_option linter.unusedSectionVars false
def memL (gd : List (Nat × List SV)) (l : List SV) : Mem := ⟨gd.length + 1, (memG gd).t.set gd.length (.ro l)⟩
theorem MR.startL {C : Cfg} {B : Nat → Prop} {w0 w : World} {env : Nat → Nat} {mem : Mem} (hgl : C.gl = glFrom 0 C.gd) (hm : MR C.bare B w0 env mem w) {b : Nat} {l l' : List SV} (hb : (mem.get b).bind AB.get? = some l) (hf : l.all SV.flat = true) (he : l.map SV.sym = l') :
    MR C (· < w.heap.size) w (envPush (envG C.gd) C.gd.length (env b)) (memL C.gd l') w := by
  have h0 := MR.start (C := C) hgl hm.gd hm.base
  obtain ⟨ab, hab, hl⟩ := Option.bind_eq_some_iff.1 hb
  obtain ⟨vs, rest, ty, fr, hh, hR⟩ := block_of (hm.blk b ab hab) hl
  subst he
  have hsy : (l.map SV.sym).all SV.flat = true := by
    rw [List.all_map]; exact List.all_eq_true.2 fun s hs => by have h := List.all_eq_true.1 hf s hs; cases s <;> first | exact h | rfl
  have hx : Ext (envG C.gd) (memG C.gd).n (envPush (envG C.gd) C.gd.length (env b)) (C.gd.length + 1) := Ext.push _ _ _
  have hold : ∀ i ab, i ≠ C.gd.length → (memL C.gd (l.map SV.sym)).get i = some ab → (memG C.gd).get i = some ab := fun i ab hi hg => by
    simp only [Mem.get, memL] at hg ⊢
    rw [Tr.get_set_ne _ _ _ _ (Ne.symm hi)] at hg
    exact hg
  have hnew : ∀ ab, (memL C.gd (l.map SV.sym)).get C.gd.length = some ab → ab = .ro (l.map SV.sym) := fun ab hg => Tr.get_set_eq _ _ _ _ hg
  refine ⟨Keep.refl _ _, fun _ hb => hb, fun i ab hi => ?_, fun i ab hi => ?_, fun i j a c hi hj _ ha _ => ?_, fun p hp => ?_, h0.gd⟩
  · show i < C.gd.length + 1
    by_cases hn : i = C.gd.length
    · omega
    · have : i < C.gd.length := h0.lt i ab (hold i ab hn hi); omega
  · by_cases hn : i = C.gd.length
    · subst hn
      rw [hnew ab hi]
      refine ⟨vs, rest, ty, fr, ?_, ?_, ?_⟩
      · unfold envPush; rw [if_pos rfl]; exact hh
      · exact all2_flat hsy (all2_sym (fun _ _ => SV.sym_R) hR)
      · unfold envPush; rw [if_pos rfl]; exact lt_of_heap hh
    · have hg := hold i ab hn hi
      have he : envPush (envG C.gd) C.gd.length (env b) i = envG C.gd i := by unfold envPush; rw [if_neg hn]
      rw [he]
      exact AB.R_ext hx (h0.blk i ab hg)
  · exfalso
    by_cases hn : i = C.gd.length
    · subst hn; rw [hnew a hi] at ha; cases ha
    · have hg := hold i a hn hi
      rcases ofList_get _ _ _ _ _ hg with h' | ⟨_, h'⟩
      · rw [Tr.get_mk] at h'; cases h'
      · simp only [Nat.sub_zero, List.getElem?_map] at h'
        obtain ⟨p, hp, rfl⟩ := Option.map_eq_some_iff.1 h'
        cases ha
  · obtain ⟨q1, q2⟩ := h0.gl p hp
    have q2' : p.2 < C.gd.length := q2
    exact ⟨by unfold envPush; rw [if_neg (by omega)]; exact q1, Nat.lt_succ_of_lt q2'⟩
def ptrSum {D : Type} (parse : List SV → Option D) (T : D → AV) : List AV → Mem → Option (List Cnd × AV) := fun args mem => match args with
  | [.one (.ptr b 0)] => match (mem.get b).bind AB.get? with
    | some l => match parse l with
      | some d => some ([], T d)
      | none => none
    | none => none
  | _ => none
theorem psok_ptr {C : Cfg} (hC : COk C) {G : List (Nat × List SV)} (hG : C.gd = G) (hgl : C.gl = glFrom 0 G) {g : Nat} {fn : Func} (hfn : FnOk C.P g fn) (hb : fn.body.isSome = true) {D : Type} {parse : List SV → Option D} {cells : D → List SV} {T : D → AV}
    (hp : ∀ l d, parse l = some d → l.all SV.flat = true ∧ l.map SV.sym = cells d) (hT : ∀ d, (T d).flat = true) (n : Nat)
    (H : ∀ d, ∃ o, callA C false n fn [.one (.ptr G.length 0)] (memL G (cells d)) = o ∧ o.sat fun v _ => v.flat = true ∧ ∀ val, v.R (fun _ => 0) 0 val → (T d).R (fun _ => 0) 0 val) : PSOk C g (ptrSum parse T) := by
  subst hG
  refine ⟨⟨fn, hfn, hb⟩, fun xs mem r conds hF _ B w0 w env vals hm hv => ?_⟩
  unfold ptrSum at hF
  split at hF
  · rename_i b
    split at hF
    · rename_i l hl
      split at hF
      · rename_i d hd
        cases hF
        obtain ⟨hf, he⟩ := hp l d hd
        obtain ⟨o, ho, hs⟩ := H d
        have hstart := MR.startL (C := C) hgl hm hl hf he
        match vals, hv with
        | [vp], hv =>
        have hptr : vp = .pointer (some ⟨env b, 0, none⟩) := hv.1.2
        have hargs : All2 (AV.R (envPush (envG C.gd) C.gd.length (env b)) (memL C.gd (cells d)).n) [.one (.ptr C.gd.length 0)] [vp] := by
          refine ⟨⟨Nat.lt_succ_self _, ?_⟩, trivial⟩
          rw [hptr]
          simp only [SV.conc, envPush, if_true]
        refine (callA_calls hC hfn (by rw [ho]; exact hs) hstart hargs).mono ?_
        rintro e w' ⟨v, hev, r', mem', env', ⟨hf', hK⟩, hm', hx, hRR⟩
        exact ⟨⟨v, hev, AV.flat_R (hT d) (hK v (AV.flat_R hf' hRR))⟩, hm'.below.below⟩
        | [], hv => exact hv.elim
        | _ :: _ :: _, hv => exact hv.2.elim
      · cases hF
    · cases hF
  · cases hF
variable [JW]
structure SpD where
  rate : Int
  suffix : Int
  a : Nat → Int
  at' : Int
  reading : Bool
def cellsSp (d : SpD) : List SV := [.si .i64 d.rate, .si .i64 d.suffix] ++ (tab 25 d.a).map (.si .u64) ++ [.si .i64 d.at', .sb d.reading]
def numS : SV → Option Int
  | .li .i64 n => some n
  | .si .i64 n => some n
  | _ => none
def boolS : SV → Option Bool
  | .lb b => some b
  | .sb b => some b
  | _ => none
def parseSp : List SV → Option SpD
  | r :: s :: l => match numS r, numS s, intsOf .u64 (l.take 25), l.drop 25 with
    | some r, some s, some A, [x, y] => match numS x, boolS y, Nat.beq A.length 25 with
      | some x, some y, true => some ⟨r, s, fun i => A.getD i 0, x, y⟩
      | _, _, _ => none
    | _, _, _, _ => none
  | _ => none
theorem numS_sym {s : SV} {n : Int} (h : numS s = some n) : s.flat = true ∧ s.sym = .si .i64 n := by
  unfold numS at h
  split at h <;> cases h <;> exact ⟨rfl, rfl⟩
theorem boolS_sym {s : SV} {b : Bool} (h : boolS s = some b) : s.flat = true ∧ s.sym = .sb b := by
  unfold boolS at h
  split at h <;> cases h <;> exact ⟨rfl, rfl⟩
theorem intsOf_sym {k : IntKind} : ∀ {l : List SV} {A : List Int}, intsOf k l = some A → l.map SV.sym = A.map (.si k)
  | [], A, h => by cases h; rfl
  | s :: l, A, h => by
    cases s with
    | li k' n =>
      simp only [intsOf] at h
      split at h
      · rename_i l' hk hl; cases h; rw [List.map_cons, intsOf_sym hl, ← kEq_of hk]; rfl
      · cases h
    | si k' n =>
      simp only [intsOf] at h
      split at h
      · rename_i l' hk hl; cases h; rw [List.map_cons, intsOf_sym hl, ← kEq_of hk]; rfl
      · cases h
    | _ => simp [intsOf] at h
theorem parseSp_ok (l : List SV) (d : SpD) (h : parseSp l = some d) : l.all SV.flat = true ∧ l.map SV.sym = cellsSp d := by
  unfold parseSp at h
  split at h
  · rename_i r s l
    split at h
    · rename_i r' s' A x y hr hs hA hd
      split at h
      · rename_i x' y' hx hy hl
        cases h
        have hl := Nat.eq_of_beq_eq_true hl
        have e : l = l.take 25 ++ [x, y] := by rw [← hd, List.take_append_drop]
        obtain ⟨r1, r2⟩ := numS_sym hr
        obtain ⟨s1, s2⟩ := numS_sym hs
        obtain ⟨x1, x2⟩ := numS_sym hx
        obtain ⟨y1, y2⟩ := boolS_sym hy
        have hA1 := intsOf_flat hA
        have hA2 := intsOf_sym hA
        constructor
        · rw [List.all_cons, List.all_cons, e, List.all_append, r1, s1, hA1]; simp [x1, y1]
        · rw [List.map_cons, List.map_cons, e, List.map_append, hA2, r2, s2]
          simp only [cellsSp, tab_self hl, List.map_cons, List.map_nil, x2, y2]
          rfl
      · cases h
    · cases h
  · cases h
def T_State (d : SpD) : AV := .tup [.agg ((tab 25 d.a).map (.si .u64)), .one (.si .i64 d.at'), .one (.sb d.reading)]
def p_State := (21, ptrSum parseSp T_State)
theorem fn_State : FnOk Tryd.prog 21 Tryd.f21 := ⟨Tryd.func21, by kernel_rfl⟩
noncomputable abbrev cSt : Cfg := cfgP Tryd.prog JW.J gdM false 2 [] [] [] [] [] [] [] [1]
def regOps (n : Nat) : Code → Option (Array Oper)
  | .region id ops _ => match Nat.beq id n with | true => some ops | false => none
  | .seq a b => match regOps n a with | some r => some r | none => regOps n b
  | .cond _ a b => match regOps n a with | some r => some r | none => regOps n b
  | .block _ a => regOps n a
  | .loop a => regOps n a
  | .scope a => regOps n a
  | _ => none
noncomputable def opsSt : Array Oper := (regOps 1 (Tryd.f21.body.getD .skip)).getD #[]
noncomputable def tmSt : TM := (((TM.enter 17 [.one (.ptr 0 0)]).set 2 (.one (.ptr 1 0))).set 3 (.one (.li .i64 0))).set 4 (.one (.lb false))
noncomputable def memSt (d : SpD) : Mem := (memL gdM (cellsSp d)).push (.cells 38 (List.replicate 25 (.li .u64 0)))
set_option maxRecDepth 20000 in
theorem run_State (d : SpD) : callA cSt false 100 Tryd.f21 [.one (.ptr 0 0)] (memL gdM (cellsSp d)) = .need (Confl cSt opsSt tmSt (memSt d)) (.done (T_State d) Mem.empty) := by kernel_rfl
theorem conf_State (d : SpD) : Confl cSt opsSt tmSt (memSt d) := ⟨by kernel_rfl, by kernel_rfl⟩
theorem ps_State : PSOk cM p_State.1 p_State.2 :=
  PSOk.widen (C := cSt) (C' := cM) (psok_ptr (C := cSt) (cokP mixedM JW.hJ mem0 mem0 mem0 mem0 mem0) rfl rfl fn_State (by kernel_rfl) parseSp_ok (fun d => by simp [T_State, AV.flat, TV.flat, SV.flat]) 100 fun d => ⟨_, run_State d, conf_State d, (by simp [T_State, AV.flat, TV.flat, SV.flat]), fun _ h => h⟩) rfl (fun _ h => h)
end Go.Proofs.YtmiongjabbpmkaaDoor

