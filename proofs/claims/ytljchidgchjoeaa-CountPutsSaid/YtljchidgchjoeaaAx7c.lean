/- The abstract executor: where a slice's numbers lie; texts; what is nil; loops from their body's begin. -/
import Derived.Test.YtljchidgchjoeaaAx7b
import Derived.Laws.BytesArg
import Derived.Lib.SliceRun
namespace Go.Ax
open Go Go.RowKit

section
variable {C : Cfg} {B : Nat → Prop} {w0 w : World} {env : Nat → Nat} {mem : Mem} {P : Program}

/-- Where a slice's numbers lie. -/
def Lies (w : World) (v : Value) (k : IntKind) (M : List Int) : Prop :=
  ∃ p c, v = .slice p M.length c ∧ M.length ≤ c ∧ c ≤ 9223372036854775807 ∧ (∀ x ∈ M, okI k x) ∧ ∃ (b o : Nat), M = [] ∨ (p = some ⟨b, o, none⟩ ∧ ∃ (front rest : List Value) (t : TypeId) (fr : Nat × Nat), front.length = o ∧ w.heap[b]? = some (.cells (front ++ (M.map (Value.int k) ++ rest)).toArray t fr))

theorem lies_of {b o d n : Nat} {k : IntKind} {L : List Int} {p : Option Addr} {c : Nat} (hle : o + n ≤ L.length) (hp : n = 0 ∨ p = some ⟨b, d + o, none⟩) (hc : n ≤ c) (hc2 : c ≤ 9223372036854775807)
    (hh : L ≠ [] → ∃ (front rest : List Value) (t : TypeId) (fr : Nat × Nat), front.length = d ∧ w.heap[b]? = some (.cells (front ++ (L.map (Value.int k) ++ rest)).toArray t fr) ∧ ∀ x ∈ L, okI k x) : Lies w (.slice p n c) k ((L.drop o).take n) := by
  have hl : ((L.drop o).take n).length = n := by simp; omega
  by_cases h0 : n = 0
  · subst h0
    refine ⟨p, c, by rw [List.take_zero]; rfl, by simp, hc2, by simp, b, 0, .inl (by simp)⟩
  · rcases hp with hp | rfl
    · exact absurd hp h0
    · have hne : L ≠ [] := fun e => by subst e; simp at hle; omega
      obtain ⟨front, rest, t, fr, h0', h1, h2⟩ := hh hne
      refine ⟨_, c, by rw [hl], by omega, hc2, fun x hx => h2 x (List.mem_of_mem_drop (List.mem_of_mem_take hx)), b, d + o, .inr ⟨rfl, front ++ (L.take o).map (Value.int k), (L.drop (o + n)).map (Value.int k) ++ rest, t, fr, by simp [h0']; omega, ?_⟩⟩
      rw [h1]
      have e : L.map (Value.int k) = (L.take o).map (Value.int k) ++ (((L.drop o).take n).map (Value.int k) ++ (L.drop (o + n)).map (Value.int k)) := by
        rw [← List.map_append, ← List.map_append, ← List.drop_drop, List.take_append_drop, List.take_append_drop]
      rw [e]
      simp only [List.append_assoc]

theorem srcQ_lies {k0 k : IntKind} {x : AV} {ps : List Prop} {M : List Int} {v : Value} (hm : MR C B w0 env mem w) (h : srcQ mem k0 x = some (ps, k, M)) (hp : allP ps) (hx : x.R env mem.n v) : Lies w v k M := by
  have nil : ∀ (p : Option Addr), Lies w (.slice p 0 0) k [] := fun p => ⟨p, 0, rfl, Nat.le_refl _, by omega, by simp, 0, 0, .inl rfl⟩
  have plain : ∀ {b : Nat} {L : List Int} {k : IntKind}, (mem.get b).bind AB.ints? = some (k, L) → L ≠ [] → ∃ (front rest : List Value) (t : TypeId) (fr : Nat × Nat), front.length = 0 ∧ w.heap[env b]? = some (.cells (front ++ (L.map (Value.int k) ++ rest)).toArray t fr) ∧ ∀ x ∈ L, okI k x := fun {b L k} hg hne => by
    obtain ⟨ab, hab, hi⟩ := Option.bind_eq_some_iff.1 hg
    obtain ⟨rest, t, fr, h1, h2⟩ := ints_of (hm.blk b ab hab) hi hne
    exact ⟨[], rest, t, fr, rfl, h1, h2⟩
  unfold srcQ at h
  split at h
  · rename_i b g o n
    obtain ⟨hb, o', ho, hg1, hg2, rfl⟩ := hx
    split at h
    · rename_i k' L hg
      cases h
      rw [partQ_eq]
      refine lies_of (b := env b) (d := 0) hp.1 ?_ (by omega) (by omega) (plain hg)
      rw [Nat.zero_add]
      rcases ho with rfl | ho
      · exact .inr rfl
      · exact .inl (by omega)
    · cases h
  · rename_i b o n
    obtain ⟨hb, p, c, hc, hc2, rfl, hn⟩ := hx
    split at h
    · rename_i k' L hg
      cases h
      rw [partQ_eq]
      exact lies_of (b := env b) (d := 0) hp.1 (by rw [Nat.zero_add]; exact hn) hc hc2 (plain hg)
    · cases h
  · rename_i b g o n
    obtain ⟨hb, p, c, hc, hc2, rfl, hn⟩ := hx
    split at h
    · rename_i k' L g' hg
      split at h
      · rename_i hgg
        have hgg := Nat.eq_of_beq_eq_true hgg
        subst hgg
        cases h
        rw [partQ_eq]
        refine lies_of (b := env b) (d := env g) hp.1 hn hc hc2 fun hne => ?_
        rcases hm.blk b _ hg with hL | ⟨front, rest, t, fr, h1, ⟨h2, _, h3⟩, _⟩
        · exact absurd hL hne
        · exact ⟨front, rest, t, fr, h2, h1, h3⟩
      · cases h
    · cases h
  · rename_i b o n c
    obtain ⟨hb, rfl⟩ := hx
    split at h
    · rename_i l hl
      split at h
      · rename_i es he
        split at h
        · rename_i hle
          have hle := of_decide_eq_true hle
          cases h
          obtain ⟨ab, hab, hi⟩ := Option.bind_eq_some_iff.1 hl
          obtain ⟨vs, rest, t, fr, hh, hR⟩ := block_of (hm.blk b ab hab) hi
          obtain ⟨e1, e2⟩ := intsOf_R he hR
          exact lies_of (b := env b) (d := 0) hle (.inr (by rw [Nat.zero_add])) hb.2.1 hb.2.2 (fun _ => ⟨[], rest, t, fr, rfl, by rw [← e1]; exact hh, e2⟩)
        · cases h
      · cases h
    · cases h
  · obtain ⟨hb, rfl⟩ := hx; cases h; exact nil none
  · obtain ⟨_, p, rfl⟩ := hx; cases h; exact nil p
  · cases h


/-! ## Texts -/

theorem lies_string {v : Value} {M : List Int} (h : Lies w v .u8 M) {s e d : TypeId} (hs : P.underlying s = some (.slice e)) (he : P.underlying e = some (.int .u8)) (hd : P.underlying d = some .string) :
    (convert s d v).run P w = .ok (.string (strOfNums M)) w := by
  obtain ⟨p, c, rfl, _, _, _, b, o, h⟩ := h
  rcases h with rfl | ⟨rfl, front, rest, t, fr, h1, h2⟩
  · show (convert s d (.slice p 0 c)).run P w = _
    rw [run_convert_bytes_string w s d e p 0 c hs he hd]
    cases p <;> simp [Conv.bytesToString, loadCells]
    all_goals rfl
  · refine run_convert_bytes_arg (P := P) w s e hs he b o M.length c M rfl (fun i hi => ?_) d hd
    unfold World.cell?
    rw [h2]
    subst h1
    simp only [Option.isSome_none, Bool.false_eq_true, if_false]
    rw [← Array.getElem?_toList, List.toList_toArray, List.getElem?_append_right (by omega), List.getElem?_append_left (by simp; omega)]
    simp [hi]
theorem bytesOfA_ok (s : ByteArray) : ∀ x ∈ bytesOfA s, okI .u8 x := by
  intro x hx
  obtain ⟨b, _, rfl⟩ := List.mem_map.1 hx
  have := b.toNat_lt
  unfold okI
  simp [IntKind.min, IntKind.max, IntKind.bits, IntKind.signed]
  omega
theorem str_bytes (s : ByteArray) : strOfNums (bytesOfA s) = s := by
  have : (strOfNums (bytesOfA s)).data = s.data := by
    apply Array.ext'
    rw [strOfNums_data]
    unfold bytesOfA
    rw [List.map_map]
    conv => rhs; rw [← List.map_id s.data.toList]
    refine List.map_congr_left fun b _ => ?_
    simp
  generalize strOfNums (bytesOfA s) = s' at this
  cases s
  cases s'
  simp only at this
  rw [this]
theorem strOf_R {x : AV} {L : List Int} {v : Value} (h : strOfA x = some L) (hx : x.R env mem.n v) : v = .string (strOfNums L) ∧ ∀ y ∈ L, okI .u8 y := by
  unfold strOfA at h
  split at h
  · cases h; exact ⟨hx.2, hx.1⟩
  · cases h; exact ⟨by rw [hx.2]; show _ = Value.string (strOfNums (bytesOfA _)); rw [str_bytes]; rfl, bytesOfA_ok _⟩
  · cases h
theorem str_inj {L M : List Int} (hL : ∀ x ∈ L, okI .u8 x) (hM : ∀ x ∈ M, okI .u8 x) (h : strOfNums L = strOfNums M) : L = M := by
  have : (strOfNums L).data.toList = (strOfNums M).data.toList := by rw [h]
  rw [strOfNums_data, strOfNums_data] at this
  clear h
  induction L generalizing M with
  | nil => cases M with | nil => rfl | cons _ _ => cases this
  | cons a L ih =>
    cases M with
    | nil => cases this
    | cons b M =>
      simp only [List.map_cons, List.cons.injEq] at this
      have h1 := hL a (by simp)
      have h2 := hM b (by simp)
      unfold okI at h1 h2
      simp [IntKind.min, IntKind.max, IntKind.bits, IntKind.signed] at h1 h2
      have e : a.toNat = b.toNat := by
        have := congrArg UInt8.toNat this.1
        simp at this
        omega
      rw [ih (fun x hx => hL x (by simp [hx])) (fun x hx => hM x (by simp [hx])) this.2]
      congr 1
      omega
theorem str_eq {L M : List Int} (hL : ∀ x ∈ L, okI .u8 x) (hM : ∀ x ∈ M, okI .u8 x) : ((strOfNums L).toList == (strOfNums M).toList) = decide (L = M) := by
  by_cases h : L = M
  · subst h; simp
  · rw [decide_eq_false h]
    have : (strOfNums L).toList ≠ (strOfNums M).toList := fun e => h (str_inj hL hM (by
      rw [ByteArray.toList_eq, ByteArray.toList_eq] at e
      have := congrArg List.toArray e
      simp at this
      generalize strOfNums L = s at this
      generalize strOfNums M = s' at this
      cases s
      cases s'
      simp only at this
      rw [this]))
    simp [this]
theorem eqInts_eq : ∀ {L M : List Int}, eqInts L M = decide (L = M)
  | [], [] => rfl
  | a :: L, b :: M => by
    simp only [eqInts, eqInts_eq (L := L) (M := M), List.cons.injEq]
    by_cases h1 : a = b <;> by_cases h2 : L = M <;> simp [h1, h2]
  | [], _ :: _ => rfl
  | _ :: _, [] => rfl
theorem str_run {op : BinOp} {r : Bool} {L M : List Int} {b : Bool} (hL : ∀ x ∈ L, okI .u8 x) (hM : ∀ x ∈ M, okI .u8 x) (hb : b = decide (L = M)) (h : eqB op b = some r) (t : TypeId) (xo yo : Operand) :
    (do eqGuard op t xo yo (.string (strOfNums L)) (.string (strOfNums M)); binOp op t (.string (strOfNums L)) (.string (strOfNums M)) : Sem Value).run P w = .ok (.bool r) w := by
  have hg : (eqGuard op t xo yo (.string (strOfNums L)) (.string (strOfNums M))).run P w = .ok () w := by
    unfold eqGuard
    cases op <;> rfl
  simp only [Sem.run_bind, hg, Result.andThen_ok]
  subst hb
  unfold eqB at h
  split at h
  · cases h; rw [binOp_string_eql, str_eq hL hM]; rfl
  · cases h; rw [binOp_string_neq, str_eq hL hM]; rfl
  · cases h
theorem isNil_R {x : AV} {v : Value} (h : isNilA x = true) (hx : x.R env mem.n v) : v = .slice none 0 0 := by
  unfold isNilA at h
  split at h
  · exact hx.2
  · cases h
theorem nil_run {op : BinOp} {r b : Bool} {p : Option Addr} {n c : Nat} (hb : b = p.isNone) (h : eqB op b = some r) {t e : TypeId} (ht : P.underlying t = some (.slice e)) (xo yo : Operand) :
    (do eqGuard op t xo yo (.slice p n c) (.slice none 0 0); binOp op t (.slice p n c) (.slice none 0 0) : Sem Value).run P w = .ok (.bool r) w := by
  have hg : (eqGuard op t xo yo (.slice p n c) (.slice none 0 0)).run P w = .ok () w := by
    unfold eqGuard
    cases op <;> rfl
  simp only [Sem.run_bind, hg, Result.andThen_ok]
  subst hb
  unfold eqB at h
  split at h
  · cases h; exact Lib.run_eql_slice_nil w t e p n c 0 0 ht
  · cases h
    simp only [binOp]
    simp [Op.equal, Op.maxDepth, Lib.run_equalIn_slice_nil w 9999 t e p n c 0 0 ht]
  · cases h
theorem nilOf_R {x : AV} {v : Value} {b : Bool} (h : nilOfA x = some b) (hx : x.R env mem.n v) : ∃ p n c, v = .slice p n c ∧ b = p.isNone := by
  unfold nilOfA at h
  split at h
  · cases h; exact ⟨none, 0, 0, hx.2, rfl⟩
  · cases h; exact ⟨_, _, _, hx.2, rfl⟩
  · cases h; obtain ⟨_, c, _, _, rfl⟩ := hx; exact ⟨_, _, _, rfl, rfl⟩
  · cases h; obtain ⟨_, o', _, _, _, rfl⟩ := hx; exact ⟨_, _, _, rfl, rfl⟩
  · cases h
theorem strLit_R {x : AV} {s : ByteArray} {v : Value} (h : strLit x = some s) (hx : x.R env mem.n v) : v = .string s := by
  unfold strLit at h
  split at h
  · cases h; exact hx.2
  · cases h

theorem zeroI_info {P : Program} {t : TypeId} {k : IntKind} {z : Int} (h : zeroI P t = some (k, z)) : ∃ i, P.info? t = some i ∧ i.zero = some (.int k z) := by
  unfold zeroI at h
  split at h
  · rename_i i hi
    split at h
    · rename_i k' z' hz
      cases h
      exact ⟨i, hi, hz⟩
    · cases h
  · cases h
theorem lookM_ok {k kv : IntKind} {n : Int} : ∀ {es : List (Int × Int)}, (∀ p ∈ es, okI k p.1 ∧ okI kv p.2) → okI kv (lookM es n)
  | [], _ => ⟨by cases kv <;> simp [lookM, IntKind.min, IntKind.bits, IntKind.signed], by cases kv <;> simp [lookM, IntKind.max, IntKind.bits, IntKind.signed]⟩
  | p :: es, h => by
    by_cases hn : n = p.1
    · simp only [lookM, hn, decide_true, iteI]; exact (h p (by simp)).2
    · simp only [lookM, hn, decide_false, iteI]; exact lookM_ok fun q hq => h q (by simp [hq])
theorem lookM_none {n : Int} : ∀ {es : List (Int × Int)}, es.findIdx? (fun p => decide (n = p.1)) = none → lookM es n = 0
  | [], _ => rfl
  | p :: es, h => by
    simp only [List.findIdx?_eq_none_iff, decide_eq_false_iff_not] at h
    have hn := h p (by simp)
    simp only [lookM, hn, decide_false, iteI]
    exact lookM_none (by simp only [List.findIdx?_eq_none_iff, decide_eq_false_iff_not]; exact fun q hq => h q (by simp [hq]))

theorem strOp_sound {tm : TM} {a : Act} {o : Oper} {ps : List Prop} {v : AV} (hr : Rel C B w0 env tm mem a w) (h : strOp C o tm mem = some (ps, v)) (hp : allP ps) : ∃ val, (execOp a.eval o).run C.P w = .ok (.value val) w ∧ v.R env mem.n val := by
  have lift : ∀ {s : Sem Value}, RunV C.P w env mem.n s v → ∃ val, (do pure (Next.value (← s)) : Sem Next).run C.P w = .ok (.value val) w ∧ v.R env mem.n val := fun ⟨z, hz, hR⟩ => ⟨z, by simp [hz], hR⟩
  have hev := fun x => ev_R hr x
  unfold strOp at h
  unfold execOp
  split at h
  · rename_i s d x ho
    simp only [ho]
    split at h
    · rename_i e hs hd
      split at h
      · rename_i ps' M he hsrc
        cases h
        have hl := srcQ_lies hr.mem hsrc hp (hev x)
        refine lift ⟨_, lies_string hl hs he hd, ?_, rfl⟩
        obtain ⟨_, _, _, _, _, hok, _⟩ := hl
        exact hok
      · cases h
    · cases h
  · rename_i op t x y _ ho
    simp only [ho]
    split at h
    · rename_i s1 s2 e1 e2
      split at h
      · rename_i r hr'
        cases h
        rw [strLit_R e1 (hev x), strLit_R e2 (hev y)]
        have := str_run (P := C.P) (w := w) (L := bytesOfA s1) (M := bytesOfA s2) (bytesOfA_ok _) (bytesOfA_ok _) eqInts_eq hr' t x y
        rw [str_bytes, str_bytes] at this
        exact lift ⟨.bool r, this, trivial, rfl⟩
      · cases h
    · split at h
      · rename_i L M e1 e2
        split at h
        · rename_i r hr'
          cases h
          obtain ⟨q1, q2⟩ := strOf_R e1 (hev x)
          obtain ⟨q3, q4⟩ := strOf_R e2 (hev y)
          rw [q1, q3]
          exact lift ⟨.bool r, str_run (P := C.P) (w := w) q2 q4 rfl hr' t x y, trivial, rfl⟩
        · cases h
      · split at h
        · rename_i e b ht e1 e2
          split at h
          · rename_i r hr'
            cases h
            obtain ⟨p, n, c, q1, q2⟩ := nilOf_R e1 (hev x)
            rw [q1, isNil_R e2 (hev y)]
            exact lift ⟨.bool r, nil_run (P := C.P) (w := w) (n := n) (c := c) q2 hr' ht x y, trivial, rfl⟩
          · cases h
        · cases h
  · rename_i args ts ho
    simp only [ho]
    split at h
    · rename_i x t hx hts
      split at h
      · rename_i s e1 ht
        split at h
        · rename_i hsz
          have hsz := of_decide_eq_true hsz
          cases h
          have ea : args = #[x] := by apply Array.ext'; rw [hx]
          have et : ts = #[t] := by apply Array.ext'; rw [hts]
          subst ea et
          refine ⟨.int .i64 s.size, ?_, ⟨by simp [IntKind.min, IntKind.bits, IntKind.signed], by simp [IntKind.max, IntKind.bits, IntKind.signed]; omega⟩, rfl⟩
          simp only [resolve, Sem.run_bind, Sem.run_pure, Result.andThen_ok, invoke]
          simp [strLit_R e1 (hev x), builtin, run_len_string _ _ _ _ ht]
          rfl
        · cases h
      · cases h
    · cases h
  · rename_i t x key ho
    simp only [ho]
    split at h
    · rename_i kt vt b k n ht hx hkey
      split at h
      · rename_i k1 kv1 z k' kv es hk1 hz hb
        split at h
        · rename_i hc
          cases h
          simp only [Bool.and_eq_true] at hc
          obtain ⟨⟨⟨c1, c2⟩, c3⟩, c4⟩ := hc
          have c1 := kEq_of c1
          have c2 := kEq_of c2
          have c3 := kEq_of c3
          have c4 := of_decide_eq_true c4
          subst c4
          subst c1 c3 c2
          have hv := hev x
          rw [hx] at hv
          obtain ⟨_, hv⟩ := hv
          obtain ⟨q1, q2⟩ := num_val hkey (hev key)
          obtain ⟨ms, clock, hh, hms, hoks, _⟩ := hr.mem.blk b _ hb
          have hfind := findNow_map (n := n) (i := 0) hms
          have hck := fun em => MapKept.run_checkKey (w := w) hk1 (k := .int _ n) rfl em 9999
          have hfk := MapKept.run_findKey (w := w) hk1 hfind
          obtain ⟨zi, hzi, hzz⟩ := zeroI_info hz
          rw [q1]
          have hkk : (Value.int k1 n) = .int k1 n := rfl
          have hv2 : a.eval x = .map (some (env b)) := hv
          rw [hv2]
          have hkn : (ev C tm key) = ev C tm key := rfl
          have hck := hck ms.isEmpty
          refine lift ⟨.int kv1 (lookM es n), ?_, lookM_ok hoks, rfl⟩
          simp only [Instr.lookup, Sem.run_bind, run_underlying ht, Result.andThen_ok, MapKept.run_getObj_map hh, Sem.run_pure, hck, hfk]
          cases hq : es.findIdx? (fun p => decide (n = p.1)) with
          | none =>
            have hz0 := lookM_none hq
            simp [zeroValue, typeInfo, hzi, hzz, hz0]
          | some j => simp
        · cases h
      · cases h
    · cases h
  · rename_i t x ix ho
    simp only [ho]
    split at h
    · rename_i s k i e1 ht e2
      split at h
      · rename_i b hi hb
        have hi := of_decide_eq_true hi
        cases h
        have hiv := int_val (.inl e2) (hev ix)
        rw [strLit_R e1 (hev x), hiv.1]
        have hlt := (List.getElem?_eq_some_iff.1 hb)
        obtain ⟨hlt, hbe⟩ := hlt
        have hsz : i.toNat < s.size := by
          have : s.size = s.data.size := rfl
          rw [Array.length_toList] at hlt; omega
        have hin : 0 ≤ i ∧ i < s.size := ⟨hi, by omega⟩
        refine lift ⟨.int .u8 b.toNat, ?_, ?_, rfl⟩
        · rw [run_index_string _ _ _ _ _ ht, dif_pos hin]
          have : s[i.toNat]'hsz = b := by rw [← hbe]; rfl
          rw [this]
        · have := b.toNat_lt
          constructor <;> simp [IntKind.min, IntKind.max, IntKind.bits, IntKind.signed] <;> omega
      · cases h
    · cases h
  · cases h

theorem litOf_R {env : Nat → Nat} {m : Nat} {v : AV} {x : Value} (h : v.R env m x) : (litOf v).R env m x := by
  unfold litOf
  split <;> exact h
theorem brL_sat {K : AV → Mem → Prop} {lit c : Bool} {x y : Out} (h : (brL lit c x y).sat K) : (c = true → x.sat K) ∧ (c = false → y.sat K) := by
  cases lit
  · exact h
  · cases c
    · exact ⟨(fun e => by cases e), fun _ => h⟩
    · exact ⟨fun _ => h, fun e => by cases e⟩
theorem pureOp_sound {C : Cfg} (hE : ∀ p ∈ C.ex, ExOk C.P p.1 p.2) {B : Nat → Prop} {w0 w : World} {env : Nat → Nat} {tm : TM} {mem : Mem} {a : Act} {o : Oper} {ps : List Prop} {v : AV} (hr : Rel C B w0 env tm mem a w)
    (h : pureOp C o tm mem = some (ps, v)) (hp : allP ps) : ∃ val, (execOp a.eval o).run C.P w = .ok (.value val) w ∧ v.R env mem.n val := by
  unfold pureOp at h
  split at h
  · rename_i ps' v' hr0
    cases h
    obtain ⟨val, q1, q2⟩ := pureOp0_sound hE hr hr0 hp
    refine ⟨val, q1, ?_⟩
    split
    · exact litOf_R q2
    · exact q2
  · exact strOp_sound hr h hp

/-! ## Ways that part -/

theorem bothAll_mem {K : AV → Mem → Prop} {go : AV → Out} : ∀ {l : List AV}, (bothAll (l.map go)).sat K → ∀ v ∈ l, (go v).sat K
  | [], h, _, _ => h.elim
  | [x], h, v, hv => by rw [List.mem_singleton.1 hv]; exact h
  | x :: y :: l, h, v, hv => by
    rcases List.mem_cons.1 hv with rfl | hv
    · exact h.1
    · exact bothAll_mem (l := y :: l) h.2 v hv
theorem forkO_sound {tm : TM} {a : Act} {o : Oper} {t : Bool} {l : List AV} {e : Option AV} (hr : Rel C B w0 env tm mem a w) (h : forkO C o tm = some (t, l, e)) :
    (t = true → ∃ val, (execOp a.eval o).run C.P w = .ok (.value val) w ∧ ∃ v ∈ l, v.R env mem.n val) ∧ (t = false → ∀ v, e = some v → ∃ val, (execOp a.eval o).run C.P w = .ok (.value val) w ∧ v.R env mem.n val) := by
  have lift : ∀ {s : Sem Value} {z : Value}, s.run C.P w = .ok z w → (do pure (Next.value (← s)) : Sem Next).run C.P w = .ok (.value z) w := fun hz => by simp [hz]
  have hev := fun x => ev_R hr x
  have bools : ∀ b : Bool, ∃ v ∈ [AV.one (.lb true), .one (.lb false)], v.R env mem.n (.bool b) := fun b => by
    cases b
    · exact ⟨_, List.mem_cons_of_mem _ (List.mem_cons_self ..), trivial, rfl⟩
    · exact ⟨_, List.mem_cons_self .., trivial, rfl⟩
  unfold forkO at h
  unfold execOp
  split at h
  · rename_i op tt x y _ ho
    simp only [ho]
    have key : ∀ {el : TypeId} {r : Bool} {n c : Nat} {p : Option Addr}, C.P.underlying tt = some (.slice el) → a.eval x = .slice p n c → isNilA (ev C tm y) = true → eqB op false = some r → ∃ b, (do eqGuard op tt x y (a.eval x) (a.eval y); binOp op tt (a.eval x) (a.eval y) : Sem Value).run C.P w = .ok (.bool b) w ∧ (p.isNone = false → b = r) := fun {el r n c p} ht hx hy he => by
      rw [hx, isNil_R hy (hev y)]
      cases hp : p.isNone with
      | false => exact ⟨r, nil_run (P := C.P) (w := w) (n := n) (c := c) hp.symm he ht x y, fun _ => rfl⟩
      | true =>
        obtain ⟨r', hr'⟩ : ∃ r', eqB op true = some r' := by
          unfold eqB at he ⊢
          cases op <;> simp at he ⊢
        exact ⟨r', nil_run (P := C.P) (w := w) (n := n) (c := c) hp.symm hr' ht x y, fun h => by cases h⟩
    split at h
    · rename_i el n r ht hy hx he
      cases h
      have hv := hev x
      rw [hx] at hv
      obtain ⟨_, p, c, _, _, hv, hp⟩ := hv
      obtain ⟨b, q1, q2⟩ := key ht hv hy he
      refine ⟨fun _ => ⟨_, lift q1, bools b⟩, fun h0 v hv => ?_⟩
      cases hv
      have h0 := of_decide_eq_false h0
      rcases hp with hp | hp
      · exact absurd hp h0
      · exact ⟨_, lift q1, trivial, by rw [q2 (by rw [hp]; rfl)]; rfl⟩
    · rename_i el n r ht hy hx he
      cases h
      have hv := hev x
      rw [hx] at hv
      obtain ⟨_, p, c, _, _, hv, hp⟩ := hv
      obtain ⟨b, q1, q2⟩ := key ht hv hy he
      refine ⟨fun _ => ⟨_, lift q1, bools b⟩, fun h0 v hv => ?_⟩
      cases hv
      have h0 := of_decide_eq_false h0
      rcases hp with hp | hp
      · exact absurd hp h0
      · exact ⟨_, lift q1, trivial, by rw [q2 (by rw [hp]; rfl)]; rfl⟩
    · rename_i el r ht hy hx he
      cases h
      have hv := hev x
      rw [hx] at hv
      obtain ⟨_, p, hv⟩ := hv
      obtain ⟨b, q1, _⟩ := key ht hv hy he
      exact ⟨fun _ => ⟨_, lift q1, bools b⟩, fun h0 => by cases h0⟩
    · cases h
  · rename_i args ts ho
    simp only [ho]
    split at h
    · rename_i x y t1 t2 hx hts
      split at h
      · rename_i n el h1 h2 ht htt
        split at h
        · rename_i hsz
          cases h
          refine ⟨fun h0 => ?_, fun _ v hv => by cases hv⟩
          have h0 := of_decide_eq_true h0
          subst h0
          have htt := Nat.eq_of_beq_eq_true htt
          subst htt
          have ea : args = #[x, y] := by apply Array.ext'; rw [hx]
          have et : ts = #[t1, t1] := by apply Array.ext'; rw [hts]
          subst ea et
          obtain ⟨p, hv⟩ : ∃ p, a.eval x = .slice p 0 0 := by
            have hv := hev x
            unfold noRoom at h1
            split at h1
            · rename_i e; rw [e] at hv; exact ⟨none, hv.2⟩
            · rename_i e; rw [e] at hv; obtain ⟨_, p, hv⟩ := hv; exact ⟨p, hv⟩
            · rename_i e; rw [e] at hv; exact ⟨_, hv.2⟩
            · cases h1
          obtain ⟨q, c, hy⟩ : ∃ q c, a.eval y = .slice q 0 c := by
            have hv := hev y
            unfold lenSym at h2
            split at h2
            · rename_i e; cases h2; rw [e] at hv; obtain ⟨_, o', _, _, _, hv⟩ := hv; exact ⟨_, _, hv⟩
            · rename_i e; cases h2; rw [e] at hv; obtain ⟨_, p, c, _, _, hv, _⟩ := hv; exact ⟨_, _, hv⟩
            · rename_i e; cases h2; rw [e] at hv; obtain ⟨_, p, c, _, _, hv, _⟩ := hv; exact ⟨_, _, hv⟩
            · cases h2
          refine ⟨a.eval x, ?_, ev C tm x, List.mem_cons_self .., hev x⟩
          obtain ⟨i, hi, hsi⟩ : ∃ i, C.P.info? el = some i ∧ i.size = 1 := by
            unfold sizeA at hsz
            cases hi : C.P.info? el with
            | none => simp [hi] at hsz
            | some i => simp [hi] at hsz; exact ⟨i, rfl, hsz⟩
          have hrun := run_same (P := C.P) (w := w) (ty := o.type) ht hi hsi (n := 0) (cap := 0) (c := c) (p := p) (q := q) (Nat.le_refl _)
          simp only [resolve, Sem.run_bind, Sem.run_pure, Result.andThen_ok, invoke]
          simp [hv, hy, builtin, hrun]
        · cases h
      · cases h
    · cases h
  · cases h
theorem forked_sat {K : AV → Mem → Prop} {tm : TM} {a : Act} {o : Oper} {go : AV → Out} {plain : Out} (hr : Rel C B w0 env tm mem a w) {lit : Bool} (h : (forked lit (forkO C o tm) go plain).sat K) :
    (∃ val v, (execOp a.eval o).run C.P w = .ok (.value val) w ∧ v.R env mem.n val ∧ (go v).sat K) ∨ plain.sat K := by
  unfold forked at h
  split at h
  · rename_i t l v hf
    obtain ⟨h1, h2⟩ := forkO_sound hr hf
    cases t with
    | true =>
      obtain ⟨val, q1, v', q2, q3⟩ := h1 rfl
      exact .inl ⟨val, v', q1, q3, bothAll_mem ((brL_sat h).1 rfl) v' q2⟩
    | false =>
      obtain ⟨val, q1, q2⟩ := h2 rfl v rfl
      exact .inl ⟨val, v, q1, q2, (brL_sat h).2 rfl⟩
  · rename_i t l hf
    obtain ⟨h1, _⟩ := forkO_sound hr hf
    cases t with
    | true =>
      obtain ⟨val, q1, v', q2, q3⟩ := h1 rfl
      exact .inl ⟨val, v', q1, q3, bothAll_mem ((brL_sat h).1 rfl) v' q2⟩
    | false => exact .inr ((brL_sat h).2 rfl)
  · exact .inr h

end
end Go.Ax
