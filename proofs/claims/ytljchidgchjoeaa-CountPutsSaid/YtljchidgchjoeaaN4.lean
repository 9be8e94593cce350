/- Layer 04: the law CountPuts. -/
import Derived.Test.YtljchidgchjoeaaN3
namespace Go.Proofs.Ytljchidgchjoeaa
open Go Go.Ax
set_option linter.unusedSectionVars false

theorem fn_wakes04 : FnOk Try.prog 12 Try.f12 := ⟨Try.func12, by kernel_rfl⟩
theorem fn_CAdd : FnOk Try.prog 13 Try.f13 := ⟨Try.func13, by kernel_rfl⟩
theorem fn_Ctold : FnOk Try.prog 35 Try.f35 := ⟨Try.func35, by kernel_rfl⟩
theorem fn_CFits : FnOk Try.prog 32 Try.f32 := ⟨Try.func32, by kernel_rfl⟩
theorem fn_CBits : FnOk Try.prog 29 Try.f29 := ⟨Try.func29, by kernel_rfl⟩
noncomputable abbrev cWk [JN] : Cfg := cfgN [] [(13, Try.f13), (35, Try.f35), (32, Try.f32), (29, Try.f29)] [] [] [] [] [(34, exAdd)]
def p_wakes04 := (12, gsum [] (fun _ => []) fun _ => .p (.b true))
theorem run_wakes04 [JN] : callA cWk false 1000 Try.f12 [] (memG gdM) =
    .need ((0 : Int) ≤ 1) (.need ((1 : Int) ≤ 1) (.br (cmpI .gtr 0 0) noO (.br true yesO noO))) := by kernel_rfl
theorem ps_wakes04 [JN] : PSOk cM p_wakes04.1 p_wakes04.2 :=
  upP (psok_e (C := cWk) (cokN (memc fn_CAdd (memc fn_Ctold (memc fn_CFits (mem1 fn_CBits)))) mem0 mem0 mem0 (mem1 ex_Add)) rfl rfl fn_wakes04 (by kernel_rfl) 1000 (fun _ => []) (fun _ => rfl) fun fs _ _ => ⟨_, run_wakes04, by decide, by decide, (fun h => by cases h), fun _ => ⟨fun _ => sat_sym rfl rfl, fun h => by cases h⟩⟩)

def qPutV (P : List (List Int) → List Int) := (18, fsum [.one (.l .u64 2)] (fun _ => []) fun l => .one (.p (.c (.s 5 .u8 (P l)))))
def qCGetV (c : List (List Int) → Bool) (U V : List (List Int) → Int) := (19, fsum [.one (.s .u8)] (fun _ => []) fun l => .br (c l) (.one (.t [.g [.i .u64 (U l), .i .u64 (V l)], .c (.b true)])) (.one (.t [.g [.i .u64 0, .i .u64 0], .c (.b false)])))
def qBigV (T : List (List Int) → List Int) := (21, fsum [.one (.w .u64), .one (.w .i64)] (fun l => [1 ≤ one l 1 ∧ one l 1 ≤ 8]) fun l => .one (.p (.c (.s 5 .u8 (T l)))))
def qSmV (E : List (List Int) → Bool) := (20, fsum [.one (.s .u8), .one (.s .u8)] (fun _ => []) fun l => .one (.p (.c (.b (E l)))))
theorem fn_CountPuts : FnOk Try.prog 5 Try.f5 := ⟨Try.func5, by kernel_rfl⟩
noncomputable abbrev cCP [JN] (P : List (List Int) → List Int) (c : List (List Int) → Bool) (U V : List (List Int) → Int) (T : List (List Int) → List Int) (E : List (List Int) → Bool) : Cfg := cfgN [8] [] [p_wakes04] [qPutV P, qCGetV c U V, qBigV T, qSmV E] [] [] []
def cpMid (T : List (List Int) → List Int) (E : List (List Int) → Bool) (A : List Int) (h l : Int) (b : Bool) (u v : Int) (rest : Out) : Out :=
  .need (1 ≤ one [[h], [8]] 1 ∧ one [[h], [8]] 1 ≤ 8) (.need (1 ≤ one [[l], [8]] 1 ∧ one [[l], [8]] 1 ≤ 8) (.need ((T [[h], [8]]).length = (T [[h], [8]]).length) (.need (0 + (T [[l], [8]]).length ≤ (T [[l], [8]]).length) (.need True
    (.need ((T [[h], [8]] ++ partQ (T [[l], [8]]) 0 (T [[l], [8]]).length).length ≤ 140737488355328 ∧ (T [[h], [8]] ++ partQ (T [[l], [8]]) 0 (T [[l], [8]]).length).length * 1 ≤ 140737488355328)
    (.need (0 + A.length ≤ A.length) (.need (0 + (T [[h], [8]] ++ partQ (T [[l], [8]]) 0 (T [[l], [8]]).length).length ≤ (T [[h], [8]] ++ partQ (T [[l], [8]]) 0 (T [[l], [8]]).length).length)
    (.br (!E [partQ A 0 A.length, partQ (T [[h], [8]] ++ partQ (T [[l], [8]]) 0 (T [[l], [8]]).length) 0 (T [[h], [8]] ++ partQ (T [[l], [8]]) 0 (T [[l], [8]]).length).length]) noO (.br (!b) noO (.br (!(u == h && (v == l && true))) noO rest))))))))))
def cpLast (P : List (List Int) → List Int) (E : List (List Int) → Bool) (n : Nat) (L : List Int) (b : Bool) (u v : Int) : Out :=
  .br b (.need (0 + (P [[u, v]]).length ≤ (P [[u, v]]).length) (.need (0 + n ≤ L.length) (sbO (E [partQ (P [[u, v]]) 0 (P [[u, v]]).length, partQ L 0 n])))) noO
def cpTail (P : List (List Int) → List Int) (E : List (List Int) → Bool) (n : Nat) (L : List Int) (b : Bool) (u v : Int) : Out :=
  .br (!b == cmpI .eql (n : Int) 16) noO (.br (!b) (.br (u == 0 && (v == 0 && true)) yesO (cpLast P E n L b u v)) (cpLast P E n L b u v))
def cpGo (P : List (List Int) → List Int) (c : List (List Int) → Bool) (U V : List (List Int) → Int) (T : List (List Int) → List Int) (E : List (List Int) → Bool) (h l : Int) (n : Nat) (L : List Int) (b : Bool) (u v : Int) : Out :=
  .need (0 + n ≤ L.length) (.br (c [partQ L 0 n]) (cpMid T E (P [[h, l]]) h l b u v (cpTail P E n L true (U [partQ L 0 n]) (V [partQ L 0 n]))) (cpMid T E (P [[h, l]]) h l b u v (cpTail P E n L false 0 0)))
set_option maxRecDepth 20000 in
theorem run_CountPuts [JN] (P : List (List Int) → List Int) (c : List (List Int) → Bool) (U V : List (List Int) → Int) (T : List (List Int) → List Int) (E : List (List Int) → Bool) (h l : Int) (n : Nat) (L : List Int) : callA (cCP P c U V T E) false 1000 Try.f5 [.agg [.si .u64 h, .si .u64 l], .one (.slr 2 3 0 n)] (memX gdM [.gone, .gone, .rseq .u8 L 3, .gone]) =
    .br (cmpI .gtr (n : Int) 100) yesO (.need (0 + (P [[h, l]]).length ≤ (P [[h, l]]).length) (.br (c [partQ (P [[h, l]]) 0 (P [[h, l]]).length])
      (cpGo P c U V T E h l n L true (U [partQ (P [[h, l]]) 0 (P [[h, l]]).length]) (V [partQ (P [[h, l]]) 0 (P [[h, l]]).length])) (cpGo P c U V T E h l n L false 0 0))) := by kernel_rfl

def P_cp (l : List (List Int)) : List Int := put16 (at2 l 0 0) (at2 l 0 1)
def c_cp (l : List (List Int)) : Bool := decide ((l.getD 0 []).length = 16)
def U_cp (l : List (List Int)) : Int := wordAt (l.getD 0 []) 0
def V_cp (l : List (List Int)) : Int := wordAt (l.getD 0 []) 8
def E_cp (l : List (List Int)) : Bool := decide (l.getD 0 [] = l.getD 1 [])
def K_cp : AV → Mem → Prop := fun v _ => v = .one (.sb true) ∨ v = .one (.lb true)
section
variable [JW]
theorem put16_len {h l : Int} : (put16 h l).length = 16 := by simp [put16]
theorem put16_words {h l : Int} (hh : okI .u64 h) (hl : okI .u64 l) : wordAt (put16 h l) 0 = h ∧ wordAt (put16 h l) 8 = l := by
  obtain ⟨h1, h2⟩ := of_oku hh
  obtain ⟨h3, h4⟩ := of_oku hl
  obtain ⟨h, rfl⟩ := Int.eq_ofNat_of_zero_le h1
  obtain ⟨l, rfl⟩ := Int.eq_ofNat_of_zero_le h3
  rw [put16_eq]
  refine ⟨wordAt_bytes (by omega) fun i hi => ?_, wordAt_bytes (by omega) fun i hi => ?_⟩ <;>
  · have : i = 0 ∨ i = 1 ∨ i = 2 ∨ i = 3 ∨ i = 4 ∨ i = 5 ∨ i = 6 ∨ i = 7 := by omega
    rcases this with rfl | rfl | rfl | rfl | rfl | rfl | rfl | rfl <;> rfl
theorem bytes_of {L : List Int} (hL : ∀ x ∈ L, okI .u8 x) : ∃ b : Nat → Nat, (∀ i, b i < 256) ∧ ∀ i, L.getD i 0 = ((b i : Nat) : Int) := by
  have key : ∀ i, 0 ≤ L.getD i 0 ∧ L.getD i 0 < 256 := fun i => by
    rcases Nat.lt_or_ge i L.length with h | h
    · rw [List.getD_eq_getElem?_getD, List.getElem?_eq_getElem h, Option.getD_some]
      have := hL _ (List.getElem_mem h)
      unfold okI at this
      simp [IntKind.min, IntKind.max, IntKind.bits, IntKind.signed] at this
      omega
    · rw [List.getD_eq_getElem?_getD, List.getElem?_eq_none h]; simp
  exact ⟨fun i => (L.getD i 0).toNat, fun i => (by have := key i; show (L.getD i 0).toNat < 256; omega), fun i => (by have := key i; show L.getD i 0 = (((L.getD i 0).toNat : Nat) : Int); omega)⟩
theorem word_ok {L : List Int} {o : Nat} {b : Nat → Nat} (hb : ∀ i, b i < 256) (hL : ∀ i, L.getD i 0 = ((b i : Nat) : Int)) : okI .u64 (wordAt L o) := by
  rw [wordAt_val (b := fun i => b (o + i)) (fun i => hb _) fun i _ => hL _]
  have := valN_lt (b := fun i => b (o + i)) (fun i => hb _) 8
  have e : (256 : Nat) ^ 8 = 18446744073709551616 := rfl
  exact oku (by omega) (by omega)
theorem words_put16 {L : List Int} (hL : ∀ x ∈ L, okI .u8 x) (hl : L.length = 16) : put16 (wordAt L 0) (wordAt L 8) = L := by
  obtain ⟨b, hb, hbL⟩ := bytes_of hL
  have e0 : ∀ i, i < 8 → byteAt (wordAt L 0) (7 - i) = L.getD (0 + i) 0 := fun i hi => bytes_wordAt (b := fun i => b (0 + i)) (fun _ => hb _) (fun i _ => hbL _) hi
  have e8 : ∀ i, i < 8 → byteAt (wordAt L 8) (7 - i) = L.getD (8 + i) 0 := fun i hi => bytes_wordAt (b := fun i => b (8 + i)) (fun _ => hb _) (fun i _ => hbL _) hi
  have ht : tab 16 (fun i => L.getD i 0) = L := tab_self hl
  rw [put16_eq]
  have a0 := e0 0 (by omega); have a1 := e0 1 (by omega); have a2 := e0 2 (by omega); have a3 := e0 3 (by omega); have a4 := e0 4 (by omega); have a5 := e0 5 (by omega); have a6 := e0 6 (by omega); have a7 := e0 7 (by omega)
  have c0 := e8 0 (by omega); have c1 := e8 1 (by omega); have c2 := e8 2 (by omega); have c3 := e8 3 (by omega); have c4 := e8 4 (by omega); have c5 := e8 5 (by omega); have c6 := e8 6 (by omega); have c7 := e8 7 (by omega)
  simp only [Nat.sub_zero, Nat.reduceSub, Nat.reduceAdd, Nat.zero_add] at a0 a1 a2 a3 a4 a5 a6 a7 c0 c1 c2 c3 c4 c5 c6 c7
  rw [a0, a1, a2, a3, a4, a5, a6, a7, c0, c1, c2, c3, c4, c5, c6, c7]
  exact ht
theorem cpMid_sat {A : List Int} {h l u v : Int} {rest : Out} (hh : okI .u64 h) (hl : okI .u64 l) (hA : A = put16 h l) (hu : u = h) (hv : v = l) (hr : rest.sat K_cp) : (cpMid T_Big E_cp A h l true u v rest).sat K_cp := by
  have eh : T_Big [[h], [8]] = bigN h 8 := rfl
  have el : T_Big [[l], [8]] = bigN l 8 := rfl
  unfold cpMid
  rw [eh, el, partQ_all, partQ_all, partQ_all]
  have e1 : one [[h], [8]] 1 = 8 := rfl
  have e2 : one [[l], [8]] 1 = 8 := rfl
  rw [e1, e2]
  have hlen : (bigN h 8 ++ bigN l 8).length = 16 := by simp [bigN_len]
  have hE : E_cp [A, bigN h 8 ++ bigN l 8] = true := by
    rw [hA, put16_big hh hl]
    exact decide_eq_true rfl
  rw [hlen, hE, hu, hv]
  refine ⟨by decide, by decide, rfl, by omega, trivial, by decide, by omega, by omega, (fun e => by cases e), fun _ => ⟨(fun e => by cases e), fun _ => ⟨fun e => ?_, fun _ => hr⟩⟩⟩
  simp at e
theorem cpTail_no {n : Nat} {L : List Int} (hn : n = L.length) (h : L.length ≠ 16) : (cpTail P_cp E_cp n L false 0 0).sat K_cp := by
  subst hn
  refine ⟨fun e => ?_, fun _ => ⟨fun _ => ⟨fun _ => .inr rfl, fun e => by simp at e⟩, fun e => by cases e⟩⟩
  have : cmpI .eql (L.length : Int) 16 = false := decide_eq_false (by omega)
  rw [this] at e; cases e
theorem cpTail_yes {n : Nat} {L : List Int} (hL : ∀ x ∈ L, okI .u8 x) (hn : n = L.length) (h : L.length = 16) : (cpTail P_cp E_cp n L true (wordAt L 0) (wordAt L 8)).sat K_cp := by
  subst hn
  have hP : P_cp [[wordAt L 0, wordAt L 8]] = L := (show P_cp [[wordAt L 0, wordAt L 8]] = put16 (wordAt L 0) (wordAt L 8) from by unfold P_cp at2; simp only [List.getD_cons_zero, List.getD_cons_succ]).trans (words_put16 hL h)
  have last : (cpLast P_cp E_cp L.length L true (wordAt L 0) (wordAt L 8)).sat K_cp := by
    unfold cpLast
    rw [hP, partQ_all]
    refine ⟨fun _ => ⟨by omega, by omega, .inl ?_⟩, fun e => by cases e⟩
    have : E_cp [L, L] = true := decide_eq_true rfl
    rw [this]
  refine ⟨fun e => ?_, fun _ => ⟨(fun e => by cases e), fun _ => last⟩⟩
  have : cmpI .eql (L.length : Int) 16 = true := decide_eq_true (by omega)
  rw [this] at e; cases e
theorem cp_sat {h l : Int} {n : Nat} {L : List Int} (hh : okI .u64 h) (hl : okI .u64 l) (hL : ∀ x ∈ L, okI .u8 x) (hn : n = L.length) :
    (Out.br (cmpI .gtr (n : Int) 100) yesO (.need (0 + (P_cp [[h, l]]).length ≤ (P_cp [[h, l]]).length) (.br (c_cp [partQ (P_cp [[h, l]]) 0 (P_cp [[h, l]]).length])
      (cpGo P_cp c_cp U_cp V_cp T_Big E_cp h l n L true (U_cp [partQ (P_cp [[h, l]]) 0 (P_cp [[h, l]]).length]) (V_cp [partQ (P_cp [[h, l]]) 0 (P_cp [[h, l]]).length])) (cpGo P_cp c_cp U_cp V_cp T_Big E_cp h l n L false 0 0)))).sat K_cp := by
  have hP : P_cp [[h, l]] = put16 h l := rfl
  rw [hP, partQ_all]
  obtain ⟨w1, w2⟩ := put16_words hh hl
  refine ⟨fun _ => .inr rfl, fun _ => ⟨by omega, fun _ => ?_, fun e => ?_⟩⟩
  · have hU : U_cp [put16 h l] = h := w1
    have hV : V_cp [put16 h l] = l := w2
    unfold cpGo
    rw [hP, hU, hV]
    subst hn
    rw [partQ_all]
    refine ⟨by omega, fun e => cpMid_sat hh hl rfl rfl rfl ?_, fun e => cpMid_sat hh hl rfl rfl rfl ?_⟩
    · exact cpTail_yes hL rfl (of_decide_eq_true e)
    · exact cpTail_no rfl (of_decide_eq_false e)
  · have : c_cp [put16 h l] = true := decide_eq_true put16_len
    rw [this] at e; cases e
end
theorem law_CountPuts {H : Type} {enc : TypeId × Value → H} {W : World} {base : Nat} {args : Array Value} {ds : List (DataW H)} {ps : List MemPlace} (hT : DataW.TrodAll enc Try.prog W 0 (fun _ => true) true Try.f5.params.toList args.toList ds ps)
    (hval : ∀ (j : Nat) t v, Try.f5.params[j]? = some t → args[j]? = some v → Value.okWide Try.prog W .any base t v) :
    CallsL (loneJ Try.prog) 5 args W fun e w' => e = .returned (.bool true) ∧ RowKit.Below W.heap.size W w' :=
  letI : JN := aloneN
  law_s (C := cCP P_cp c_cp U_cp V_cp T_Big E_cp) (cokN mem0 (mem1 ps_wakes04) (memc qs_Put (memc qs_Get (memc qs_Big (mem1 qs_Same)))) mem0 mem0) rfl rfl fn_CountPuts (shs := [.one (.l .u64 2), .one (.s .u8)]) (by kernel_rfl) 1000
    (fun Ms hok => ⟨_, run_CountPuts P_cp c_cp U_cp V_cp T_Big E_cp ((Ms 0).getD 0 0) ((Ms 0).getD 1 0) (Ms 1).length (Ms 1), by
      obtain ⟨h0, h1, _⟩ := hok
      have hl2 : (Ms 0).length = 2 := h0.1
      exact cp_sat (h0.2 _ (by rw [List.getD_eq_getElem?_getD, List.getElem?_eq_getElem (by omega), Option.getD_some]; exact List.getElem_mem _)) (h0.2 _ (by rw [List.getD_eq_getElem?_getD, List.getElem?_eq_getElem (by omega), Option.getD_some]; exact List.getElem_mem _)) h1.2 rfl⟩) hT hval (fun p hp => by cases hp)
end Go.Proofs.Ytljchidgchjoeaa
