/- Package custom: the prefix, the suffix; their reference. -/
import Derived.Test.YtpaphgdbfbkihaaDoorU1
namespace Go.Proofs.YtpaphgdbfbkihaaDoor
open Go Go.Ax

def gdR : List (Nat × List SV) := [(0, [.li .i64 128, .li .i64 168, .li .i64 256, .li .i64 136])]
noncomputable def cfgR (fns : List (Nat × Func)) (ps : PSs) (fs : FSs) (lq : LQs) (sp : List (Nat × Nat × List Int)) : Cfg := { P := Tryd.prog, fns := fns, gl := glFrom 0 gdR, gd := gdR, ps := ps, fs := fs, lq := lq, sp := sp }
noncomputable abbrev cR : Cfg := cfgR [] [] [] [] []
theorem FOk.widen {C C' : Cfg} {g : Nat} {F : List AV → Mem → Option (List Prop × RT)} (hP : C'.P = C.P) (hgl : C.gl = []) (hgd : C.gd = []) (h : FOk C g F) : FOk C' g F := by
  obtain ⟨h1, h2⟩ := h
  refine ⟨by rw [hP]; exact h1, fun args mem r conds hF hp B w0 w env vals hm ha => ?_⟩
  rw [hP]
  exact h2 args mem r conds hF hp B w0 w env vals ⟨hm.below, hm.base, hm.lt, hm.blk, hm.sep, (by rw [hgl]; intro p hp; cases hp), (by rw [hgd]; intro p hp; cases hp)⟩ ha
theorem upR {g : Nat} {F : List AV → Mem → Option (List Prop × RT)} (h : FOk cM g F) : FOk cR g F := FOk.widen (C := cM) (C' := cR) rfl rfl rfl h
theorem cokR {fns : List (Nat × Func)} {ps : PSs} {fs : FSs} {lq : LQs} {sp : List (Nat × Nat × List Int)}
    (h1 : ∀ p ∈ fns, FnOk Tryd.prog p.1 p.2) (h2 : ∀ p ∈ ps, PSOk cR p.1 p.2) (h3 : ∀ p ∈ fs, FOk cR p.1 p.2) (h4 : ∀ p ∈ lq, LoopQ cR p.2.1 p.2.2) : COk (cfgR fns ps fs lq sp) :=
  ⟨mixedM, h1, fun p hp => (h2 p hp).cast rfl rfl rfl, (fun p hp => by cases hp), (fun p hp => by cases hp), (fun p hp => by cases hp), (fun p hp => LoopQ.cast (C := cR) (C' := cfgR fns ps fs lq sp) rfl rfl rfl (h4 p hp)), fun p hp => FOk.cast (C := cR) (C' := cfgR fns ps fs lq sp) rfl rfl rfl (h3 p hp)⟩
theorem downR {fns : List (Nat × Func)} {ps : PSs} {fs : FSs} {lq : LQs} {sp : List (Nat × Nat × List Int)} {g : Nat} {F : List AV → Mem → Option (List Prop × RT)} (h : FOk (cfgR fns ps fs lq sp) g F) : FOk cR g F := FOk.cast (C := cfgR fns ps fs lq sp) (C' := cR) rfl rfl rfl h

theorem fn_UPrefix : FnOk Tryd.prog 22 Tryd.f22 := ⟨Tryd.func22, by kernel_rfl⟩
theorem fn_USuffix : FnOk Tryd.prog 32 Tryd.f32 := ⟨Tryd.func32, by kernel_rfl⟩
theorem fn_VPrefix : FnOk Tryd.prog 33 Tryd.f33 := ⟨Tryd.func33, by kernel_rfl⟩

noncomputable def cPref (E R G : List (List Int) → Bool) (T U : List (List Int) → List Int) : Cfg := cfgR [] [] [qNm 46 E, qNm 31 R, qTextV T, qPadG 23 G U] [] []
def noneT : R2 := .leaf (.t [.c .e, .c (.b false)]) [0, 0] []
def bothQ (T : List (List Int) → List Int) (A B : List Int) : List Int := T [A] ++ partQ (T [B]) 0 (T [B]).length
def readQ (n m : Nat) (L M : List Int) (o : R2) : R2 := needR [0 + n ≤ L.length, 0 + m ≤ M.length] o
def joinQ (T : List (List Int) → List Int) (n m : Nat) (L M : List Int) (o : List Int → R2) : R2 :=
  needR [0 + n ≤ L.length, (partQ L 0 n).length ≤ bigLen, 0 + m ≤ M.length, (partQ M 0 m).length ≤ bigLen, (T [partQ L 0 n]).length = (T [partQ L 0 n]).length, 0 + (T [partQ M 0 m]).length ≤ (T [partQ M 0 m]).length, True, lenP (bothQ T (partQ L 0 n) (partQ M 0 m)),
    0 + (bothQ T (partQ L 0 n) (partQ M 0 m)).length ≤ (bothQ T (partQ L 0 n) (partQ M 0 m)).length, (partQ (bothQ T (partQ L 0 n) (partQ M 0 m)) 0 (bothQ T (partQ L 0 n) (partQ M 0 m)).length).length ≤ bigLen]
    (o (partQ (bothQ T (partQ L 0 n) (partQ M 0 m)) 0 (bothQ T (partQ L 0 n) (partQ M 0 m)).length))
def prefR (E R G : List (List Int) → Bool) (T U : List (List Int) → List Int) (r : Int) (n m : Nat) (L M : List Int) : R2 :=
  .br (cmpI .eql (lookM ([] ++ [(168, 128)] ++ [(136, 256)]) r) 0) noneT (readQ n m L M (.br (!R [partQ L 0 n, partQ M 0 m]) noneT (readQ n m L M (.br (E [partQ L 0 n, partQ M 0 m]) noneT
    (joinQ T n m L M fun X => .br (G [[r], X]) (.leaf (.t [.c (.s 5 .u8 (U [[r], X])), .c (.b true)]) [(U [[r], X]).length, 0] [39]) (.leaf (.t [.c .e, .c (.b true)]) [0, 0] []))))))
theorem run_UPrefix (E R G : List (List Int) → Bool) (T U : List (List Int) → List Int) (r : Int) (n m : Nat) (L M : List Int) :
    (callA (cPref E R G T U) true 1000 Tryd.f22 [.one (.si .i64 r), nmA 3 n 5 m] (memX gdR [.gone, .gone, .rseq .u8 L 4, .gone, .rseq .u8 M 6, .gone])).view = prefR E R G T U r n m L M := by kernel_rfl

/-! ## What a prefix is -/

def upB (l : List (List Int)) : Bool := (decide (one l 0 = 136) || decide (one l 0 = 168)) && (maxB 1000 [l.getD 1 [], l.getD 2 []] && !emB [l.getD 1 [], l.getD 2 []])
def nameN (A B : List Int) : List Int := textN A ++ textN B
def upW (l : List (List Int)) : List Int := padW (one l 0) (nameN (l.getD 1 []) (l.getD 2 []))
def preT (B : Bool) (M : List Int) : RT := .br B (.one (.t [.c (.s 5 .u8 M), .c (.b true)])) (.one (.t [.c .e, .c (.b false)]))
noncomputable def q_UPrefix := (22, fsum [.one (.w .i64), shN] (fun _ => []) fun l => preT (upB l) (upW l))
theorem rate_known (r : Int) : cmpI .eql (lookM ([] ++ [(168, 128)] ++ [(136, 256)]) r) 0 = !(decide (r = 136) || decide (r = 168)) := by
  show cmpI .eql (iteI (decide (r = 168)) 128 (iteI (decide (r = 136)) 256 0)) 0 = _
  rw [eql_d]
  cases decide (r = 168) <;> cases decide (r = 136) <;> rfl
theorem textN_len {A : List Int} (h : A.length ≤ 1100) : (textN A).length ≤ 1110 ∧ 2 + A.length ≤ (textN A).length := by
  have h1 := leftN_small (x := 8 * A.length) (by omega)
  have h2 := leftN_len (x := 8 * A.length)
  have h3 : (textN A).length = (leftN (8 * A.length)).length + A.length := by unfold textN; rw [List.length_append]
  have h4 := nbN_bd (x := 8 * A.length) (by omega)
  omega
theorem joinQ_sat {K : RS → List Nat → List Nat → Prop} {A B : List Int} {o : List Int → R2} (hA : A.length ≤ 1100) (hB : B.length ≤ 1100) (h : (o (nameN A B)).sat K) : (joinQ T_Text A.length B.length A B o).sat K := by
  unfold joinQ
  rw [partQ_all, partQ_all]
  have e : bothQ T_Text A B = nameN A B := by
    unfold bothQ
    rw [partQ_all]; rfl
  rw [e, partQ_all]
  have h1 := (textN_len hA).1
  have h2 := (textN_len hB).1
  have h3 : (nameN A B).length ≤ 2220 := by unfold nameN; rw [List.length_append]; omega
  have hl : bigLen = 100000000000000 := rfl
  exact needR_sat ⟨by omega, by omega, by omega, by omega, rfl, by omega, trivial, lenP_of (by omega), by omega, by omega, trivial⟩ h
theorem preT_none {B : Bool} {M : List Int} (h : B = false) : noneT.sat (RS.met (preT B M).now) := by
  subst h
  exact ⟨rfl, ⟨trivial, trivial, trivial⟩, List.nodup_nil⟩
set_option maxRecDepth 100000 in
theorem qs_UPrefix : FOk cR q_UPrefix.1 q_UPrefix.2 :=
  downR (fok_run (C := cPref emB (maxB 1000) gP T_Text padT) (shs := [.one (.w .i64), shN]) (T := fun l => preT (upB l) (upW l)) (conds := fun _ => []) (cokR mem0 mem0 (memc (upR qs_Uempty) (memc (upR qs_URight) (memc (upR qs_Text) (mem1 (upR qs_Pad))))) mem0) rfl rfl fn_UPrefix (by kernel_rfl) 1000 fun Ms _ _ => ⟨_, rfl, view_sat (by
    refine Eq.mpr (congrArg (R2.sat _) (run_UPrefix emB (maxB 1000) gP T_Text padT ((Ms 0).getD 0 0) (Ms 1).length (Ms 2).length (Ms 1) (Ms 2))) ?_
    show R2.sat (RS.met (preT (upB [Ms 0, Ms 1, Ms 2]) (upW [Ms 0, Ms 1, Ms 2])).now) _
    generalize hr : (Ms 0).getD 0 0 = r
    have e1 : one [Ms 0, Ms 1, Ms 2] 0 = r := hr
    unfold upB upW
    rw [e1]
    generalize Ms 1 = A
    generalize Ms 2 = B
    show R2.sat (RS.met (preT ((decide (r = 136) || decide (r = 168)) && (maxB 1000 [A, B] && !emB [A, B])) (padW r (nameN A B))).now) _
    unfold prefR readQ
    rw [partQ_all, partQ_all, rate_known]
    generalize hk : (decide (r = 136) || decide (r = 168)) = k
    generalize hm : maxB 1000 [A, B] = m
    generalize he : emB [A, B] = e
    refine ⟨fun h => preT_none ?_, fun h => needR_sat ⟨by omega, by omega, trivial⟩ ⟨fun h2 => preT_none ?_, fun h2 => needR_sat ⟨by omega, by omega, trivial⟩ ⟨fun h3 => preT_none ?_, fun h3 => ?_⟩⟩⟩
    · cases k <;> first | rfl | cases h
    · cases m <;> cases k <;> first | rfl | cases h2
    · cases e <;> cases k <;> cases m <;> first | rfl | cases h3
    · have hk1 : k = true := by cases k <;> first | rfl | cases h
      have hm1 : m = true := by cases m <;> first | rfl | cases h2
      subst hk1
      subst hm1
      subst h3
      unfold maxB at hm
      rw [Bool.and_eq_true] at hm
      have hA : A.length ≤ 1000 := of_decide_eq_true hm.1
      have hB : B.length ≤ 1000 := of_decide_eq_true hm.2
      refine joinQ_sat (by omega) (by omega) ⟨fun _ => ⟨rfl, ⟨rfl, trivial, trivial⟩, (by simp)⟩, fun hg => ?_⟩
      have hg : (decide (1 ≤ r) && decide (r ≤ 1000)) = false := hg
      rw [Bool.or_eq_true] at hk
      rw [decide_eq_true (by rcases hk with hk | hk <;> (have := of_decide_eq_true hk; omega)), decide_eq_true (by rcases hk with hk | hk <;> (have := of_decide_eq_true hk; omega))] at hg
      cases hg)⟩)

noncomputable def cSuf (E : List (List Int) → Bool) : Cfg := cfgM [] [] [qNm 46 E] [] []
theorem run_USuffix (E : List (List Int) → Bool) (n m : Nat) (L M : List Int) : (callA (cSuf E) true 1000 Tryd.f32 [nmA 0 n 2 m] (nmM L M)).view = readQ n m L M (.br (E [partQ L 0 n, partQ M 0 m]) (.leaf (.p (.c (.i .i64 31))) [0] []) (.leaf (.p (.c (.i .i64 4))) [0] [])) := by kernel_rfl
noncomputable def q_USuffix := (32, fsum [shN] (fun _ => []) fun l => .one (.p (.c (.i .i64 (iteI (emB l) 31 4)))))
set_option maxRecDepth 100000 in
theorem qs_USuffix : FOk cM q_USuffix.1 q_USuffix.2 :=
  upM (fok_run (C := cSuf emB) (shs := [shN]) (T := fun l => .one (.p (.c (.i .i64 (iteI (emB l) 31 4))))) (conds := fun _ => []) (cokM mem0 mem0 (mem1 qs_Uempty) mem0) rfl rfl fn_USuffix (by kernel_rfl) 1000 fun Ms _ _ => ⟨_, rfl, view_sat (by
    refine Eq.mpr (congrArg (R2.sat _) (run_USuffix emB (Ms 0).length (Ms 1).length (Ms 0) (Ms 1))) ?_
    unfold readQ
    rw [partQ_all, partQ_all]
    show R2.sat (RS.met (.p (.c (.i .i64 (iteI (emB [Ms 0, Ms 1]) 31 4))))) _
    generalize emB [Ms 0, Ms 1] = e
    refine needR_sat ⟨by omega, by omega, trivial⟩ ⟨fun h => ?_, fun h => ?_⟩
    · subst h; exact ⟨rfl, ⟨trivial, trivial⟩, List.nodup_nil⟩
    · subst h; exact ⟨rfl, ⟨trivial, trivial⟩, List.nodup_nil⟩)⟩)

noncomputable def cVPref (E G : List (List Int) → Bool) (T U : List (List Int) → List Int) : Cfg := cfgM [] [] [qNm 21 E, qRTextV T, qPadG 35 G U] [] []
def vprefR (E G : List (List Int) → Bool) (T U : List (List Int) → List Int) (r : Int) (n m : Nat) (L M : List Int) : R2 :=
  readQ n m L M (.br (E [partQ L 0 n, partQ M 0 m]) (.leaf (.p (.c .e)) [0] []) (joinQ T n m L M fun X => .br (G [[r], X]) (.leaf (.p (.c (.s 5 .u8 (U [[r], X])))) [(U [[r], X]).length] [35]) (.leaf (.p (.c .e)) [0] [])))
theorem run_VPrefix (E G : List (List Int) → Bool) (T U : List (List Int) → List Int) (r : Int) (n m : Nat) (L M : List Int) :
    (callA (cVPref E G T U) true 1000 Tryd.f33 [.one (.si .i64 r), nmA 2 n 4 m] (memX gdM [.gone, .gone, .rseq .u8 L 3, .gone, .rseq .u8 M 5, .gone])).view = vprefR E G T U r n m L M := by kernel_rfl
def vpT (E G : Bool) (M : List Int) : RT := .br E (.one (.p (.c .e))) (.br G (.one (.p (.c (.s 5 .u8 M)))) (.one (.p (.c .e))))
noncomputable def q_VPrefix := (33, fsum [.one (.w .i64), shN] (fun l => [(l.getD 1 []).length ≤ 1100, (l.getD 2 []).length ≤ 1100]) fun l => vpT (emB [l.getD 1 [], l.getD 2 []]) (gP l) (upW l))
set_option maxRecDepth 100000 in
theorem qs_VPrefix : FOk cM q_VPrefix.1 q_VPrefix.2 :=
  upM (fok_run (C := cVPref emB gP T_Text padT) (shs := [.one (.w .i64), shN]) (T := fun l => vpT (emB [l.getD 1 [], l.getD 2 []]) (gP l) (upW l)) (conds := fun l => [(l.getD 1 []).length ≤ 1100, (l.getD 2 []).length ≤ 1100]) (cokM mem0 mem0 (memc qs_VEmpty (memc qs_RText (mem1 qs_RPad))) mem0) rfl rfl fn_VPrefix (by kernel_rfl) 1000 fun Ms _ hc => ⟨_, rfl, view_sat (by
    obtain ⟨hA, hB, _⟩ := hc
    have hA : (Ms 1).length ≤ 1100 := hA
    have hB : (Ms 2).length ≤ 1100 := hB
    refine Eq.mpr (congrArg (R2.sat _) (run_VPrefix emB gP T_Text padT ((Ms 0).getD 0 0) (Ms 1).length (Ms 2).length (Ms 1) (Ms 2))) ?_
    show R2.sat (RS.met (vpT (emB [Ms 1, Ms 2]) (gP [Ms 0, Ms 1, Ms 2]) (upW [Ms 0, Ms 1, Ms 2])).now) _
    generalize hr : (Ms 0).getD 0 0 = r
    have e1 : one [Ms 0, Ms 1, Ms 2] 0 = r := hr
    unfold upW gP
    rw [e1]
    generalize Ms 1 = A at *
    generalize Ms 2 = B at *
    show R2.sat (RS.met (vpT (emB [A, B]) (decide (1 ≤ r) && decide (r ≤ 1000)) (padW r (nameN A B))).now) _
    unfold vprefR readQ
    rw [partQ_all, partQ_all]
    generalize he : emB [A, B] = e
    refine needR_sat ⟨by omega, by omega, trivial⟩ ⟨fun h => ?_, fun h => ?_⟩
    · subst h
      exact ⟨rfl, ⟨trivial, trivial⟩, List.nodup_nil⟩
    · subst h
      refine joinQ_sat hA hB ?_
      show R2.sat _ (.br (decide (1 ≤ r) && decide (r ≤ 1000)) _ _)
      generalize (decide (1 ≤ r) && decide (r ≤ 1000)) = g
      refine ⟨fun h => ?_, fun h => ?_⟩
      · subst h
        exact ⟨rfl, ⟨rfl, trivial⟩, (by simp)⟩
      · subst h
        exact ⟨rfl, ⟨trivial, trivial⟩, List.nodup_nil⟩)⟩)
end Go.Proofs.YtpaphgdbfbkihaaDoor
