/- The abstract executor: reading memory, addresses, parts. -/
import Derived.Test.YtljchidgchjoeaaAx4
namespace Go.Ax
open Go Go.RowKit

section
variable {P : Program} {w : World} {env : Nat → Nat} {m : Nat}

theorem aggSize_some {t : TypeId} {n : Nat} (h : aggSize P t = some (some n)) : (isAgg t).run P w = .ok true w ∧ (sizeOf t).run P w = .ok n w := by
  unfold aggSize at h
  split at h
  · rename_i fs i hu hi
    cases h
    exact ⟨by unfold isAgg; simp [run_underlying hu], by simp [sizeOf, typeInfo, hi]⟩
  · rename_i a e i hu hi
    cases h
    exact ⟨by unfold isAgg; simp [run_underlying hu], by simp [sizeOf, typeInfo, hi]⟩
  · cases h
  · cases h

theorem aggSize_none {t : TypeId} (h : aggSize P t = some none) : (isAgg t).run P w = .ok false w := by
  unfold aggSize at h
  split at h
  · cases h
  · cases h
  · rename_i d i hn1 hn2 hu hi
    unfold isAgg
    simp only [Sem.run_bind, run_underlying hu, Result.andThen_ok]
    cases d with
    | struct fs => exact (hn1 fs rfl).elim
    | array n e => exact (hn2 n e rfl).elim
    | _ => rfl
  · cases h

theorem sizeA_run {t : TypeId} {n : Nat} (h : sizeA P t = some n) : (sizeOf t).run P w = .ok n w := by
  unfold sizeA at h
  cases hi : P.info? t with
  | none => simp [hi] at h
  | some i => simp [hi] at h; simp [sizeOf, typeInfo, hi, h]

theorem add_addr (b o j : Nat) : (⟨b, o, none⟩ : Addr).add j = ⟨b, o + j, none⟩ := by
  unfold Addr.add
  split
  · rename_i h; subst h; rfl
  · rfl

theorem block_of {B : Nat → Prop} {ab : AB} {b : Nat} {l : List SV} (h : ab.R env m B w b) (hl : ab.get? = some l) :
    ∃ (vs rest : List Value) (t : TypeId) (fr : Nat × Nat), w.heap[b]? = some (.cells (vs ++ rest).toArray t fr) ∧ All2 (SV.R env m) l vs := by
  cases ab with
  | gone => cases hl
  | cells t l' => obtain ⟨vs, h1, h2, _⟩ := h; cases hl; exact ⟨vs, [], t, _, by simpa using h1, h2⟩
  | row t l' => obtain ⟨vs, rest, h1, h2, _⟩ := h; cases hl; exact ⟨vs, rest, t, _, h1, h2⟩
  | ro l' => obtain ⟨vs, rest, t, fr, h1, h2, _⟩ := h; cases hl; exact ⟨vs, rest, t, fr, h1, h2⟩
  | seq t k L g => cases hl
  | rseq k L g => cases hl
  | mp k kv es => cases hl
  | ob x => cases hl
  | fz t l' => obtain ⟨vs, fr, h1, h2, _⟩ := h; cases hl; exact ⟨vs, [], t, fr, by simpa using h1, h2⟩

/-- A row of numbers, where it isn't empty. -/
theorem ints_of {B : Nat → Prop} {ab : AB} {b : Nat} {k : IntKind} {L : List Int} (h : ab.R env m B w b) (hl : ab.ints? = some (k, L)) (_hne : L ≠ []) :
    ∃ (rest : List Value) (t : TypeId) (fr : Nat × Nat), w.heap[b]? = some (.cells (L.map (Value.int k) ++ rest).toArray t fr) ∧ ∀ x ∈ L, okI k x := by
  cases ab with
  | seq t k' L' g => obtain ⟨rest, h1, _, _, h4, _⟩ := h; cases hl; exact ⟨rest, t, _, h1, h4⟩
  | _ => cases hl

theorem cell_at {b : Nat} {cs : List Value} {t : TypeId} {fr : Nat × Nat} (h : w.heap[b]? = some (.cells cs.toArray t fr)) (o : Nat) : w.cell? ⟨b, o, none⟩ = cs[o]? := by
  simp [World.cell?, h]

theorem seg_spec {l r : List SV} {o n : Nat} (h : seg l o n = some r) : r = (l.drop o).take n ∧ r.length = n ∧ r.all SV.cell = true := by
  unfold seg at h
  dsimp only at h
  split at h
  · rename_i hb
    simp only [Bool.and_eq_true] at hb
    cases h
    exact ⟨rfl, Nat.eq_of_beq_eq_true hb.1, hb.2⟩
  · cases h

theorem intsOf_R {k : IntKind} : ∀ {l : List SV} {es : List Int} {vs : List Value}, intsOf k l = some es → All2 (SV.R env m) l vs → vs = es.map (Value.int k) ∧ ∀ n ∈ es, okI k n
  | [], es, [], h, _ => by cases h; exact ⟨rfl, by simp⟩
  | [], _, _ :: _, _, h => h.elim
  | _ :: _, _, [], _, h => h.elim
  | s :: l, es, v :: vs, h, hr => by
    cases s with
    | li k' n =>
      simp only [intsOf] at h
      split at h
      · rename_i es' hk he
        cases h
        have hk := kEq_of hk
        subst hk
        obtain ⟨h1, h2⟩ := intsOf_R he hr.2
        exact ⟨by rw [List.map_cons, ← h1, hr.1.2]; rfl, by simpa using ⟨hr.1.1, h2⟩⟩
      · cases h
    | si k' n =>
      simp only [intsOf] at h
      split at h
      · rename_i es' hk he
        cases h
        have hk := kEq_of hk
        subst hk
        obtain ⟨h1, h2⟩ := intsOf_R he hr.2
        exact ⟨by rw [List.map_cons, ← h1, hr.1.2]; rfl, by simpa using ⟨hr.1.1, h2⟩⟩
      · cases h
    | _ => simp [intsOf] at h

theorem sel_get {k : IntKind} {es : List Int} {e : Int} (h : ∀ n ∈ es, okI k n) (h0 : 0 ≤ e) (h1 : e < (es.length : Int)) : (es.map (Value.int k))[e.toNat]? = some (.int k (sel es e)) ∧ okI k (sel es e) := by
  have hlt : e.toNat < es.length := by omega
  have hs : sel es e = es[e.toNat] := by simp [sel, hlt]
  exact ⟨by simp [hlt, hs], by rw [hs]; exact h _ (List.getElem_mem hlt)⟩

theorem run_loadVar_cell {t : TypeId} {b o : Nat} {v : Value} (ht : (isAgg t).run P w = .ok false w) (hc : w.cell? ⟨b, o, none⟩ = some v) : (loadVar t ⟨b, o, none⟩).run P w = .ok v w := by
  unfold loadVar
  simp [ht, hc]

theorem run_loadVar_agg {t : TypeId} {b o n : Nat} {cs : List Value} (ht : (isAgg t).run P w = .ok true w) (hs : (sizeOf t).run P w = .ok n w) (hn : cs.length = n)
    (hc : ∀ j v, cs[j]? = some v → w.cell? ⟨b, o + j, none⟩ = some v) : (loadVar t ⟨b, o, none⟩).run P w = .ok (.agg cs.toArray) w := by
  have hl := run_loadCells_list (P := P) w ⟨b, o, none⟩ cs (fun j v h => by rw [add_addr]; exact hc j v h)
  subst hn
  unfold loadVar
  simp [ht, hs, hl]

theorem loadA_sound {C : Cfg} {B : Nat → Prop} {w0 : World} {mem : Mem} {t : TypeId} {x v : AV} {ps : List Prop} {vx : Value} (hm : MR C B w0 env mem w) (h : loadA P mem t x = some (ps, v)) (hp : allP ps) (hx : x.R env mem.n vx) :
    RunV P w env mem.n (Instr.loadAt t vx) v := by
  unfold loadA at h
  split at h
  · rename_i b o
    obtain ⟨hb, rfl⟩ := hx
    have hrun : ∀ z, (loadVar t ⟨env b, o, none⟩).run P w = .ok z w → (Instr.loadAt t ((SV.ptr b o).conc env)).run P w = .ok z w := fun z hz => by
      simp [SV.conc, Instr.loadAt, Instr.sureAddr, hz]
    split at h
    · rename_i l n hg ha
      obtain ⟨ab, hmb, hg⟩ := Option.bind_eq_some_iff.1 hg
      obtain ⟨vs, rest, ty, fr, hh, hl⟩ := block_of (hm.blk b ab hmb) hg
      split at h
      · rename_i r hr
        cases h
        obtain ⟨h1, h2, h3⟩ := seg_spec hr
        obtain ⟨ht, hs⟩ := aggSize_some (w := w) ha
        have hall : All2 (SV.R env mem.n) r ((vs.drop o).take n) := by rw [h1]; exact (hl.drop o).take n
        refine ⟨.agg ((vs.drop o).take n).toArray, hrun _ (run_loadVar_agg ht hs (hall.length.symm.trans h2) fun j v hj => ?_), _, rfl, hall⟩
        rw [cell_at hh]
        have hj' : vs[o + j]? = some v := by
          rw [List.getElem?_take] at hj
          split at hj
          · simpa [List.getElem?_drop] using hj
          · cases hj
        rw [List.getElem?_append_left (List.getElem?_eq_some_iff.1 hj').1]
        exact hj'
      · cases h
    · rename_i l hg ha
      obtain ⟨ab, hmb, hg⟩ := Option.bind_eq_some_iff.1 hg
      obtain ⟨vs, rest, ty, fr, hh, hl⟩ := block_of (hm.blk b ab hmb) hg
      split at h
      · rename_i s hs
        cases h
        obtain ⟨z, hz, hr⟩ := All2.get hl hs
        refine ⟨z, hrun _ (run_loadVar_cell (aggSize_none ha) ?_), hr⟩
        rw [cell_at hh, List.getElem?_append_left (List.getElem?_eq_some_iff.1 hz).1]
        exact hz
      · cases h
    · rename_i ha
      split at h
      · rename_i k L hg
        cases h
        obtain ⟨ab, hmb, hg⟩ := Option.bind_eq_some_iff.1 hg
        have hlt : (o : Int) < (L.length : Int) := hp.2.1
        obtain ⟨rest, ty, fr, hh, hok⟩ := ints_of (hm.blk b ab hmb) hg (fun e => by subst e; simp at hlt; omega)
        obtain ⟨h3, h4⟩ := sel_get hok hp.1 hlt
        refine ⟨_, hrun _ (run_loadVar_cell (aggSize_none ha) ?_), si_R h4⟩
        rw [Int.toNat_natCast] at h3
        rw [cell_at hh, List.getElem?_append_left (List.getElem?_eq_some_iff.1 h3).1]
        exact h3
      · cases h
    · cases h
  · rename_i b g e
    obtain ⟨hb, rfl⟩ := hx
    split at h
    · rename_i k L g' hmb ha
      split at h
      · rename_i hg
        have hg := Nat.eq_of_beq_eq_true hg
        subst hg
        cases h
        have hlt : e < (L.length : Int) := hp.2.1
        have h0 : 0 ≤ e := hp.1
        rcases hm.blk b _ hmb with hL | ⟨front, rest, ty, fr, hh, ⟨hf, _, hok⟩, _⟩
        · subst hL; simp at hlt; omega
        · obtain ⟨h3, h4⟩ := sel_get hok h0 hlt
          refine ⟨_, ?_, si_R h4⟩
          have hld : (loadVar t ⟨env b, env g + e.toNat, none⟩).run P w = .ok (.int k (sel L e)) w := by
            refine run_loadVar_cell (aggSize_none ha) ?_
            rw [cell_at hh, List.getElem?_append_right (by omega), show env g + e.toNat - front.length = e.toNat by omega, List.getElem?_append_left (List.getElem?_eq_some_iff.1 h3).1]
            exact h3
          simp [SV.conc, Instr.loadAt, Instr.sureAddr, hld]
      · cases h
    · cases h
  · rename_i b e
    obtain ⟨hb, rfl⟩ := hx
    have hrun : ∀ z, (loadVar t ⟨env b, e.toNat, none⟩).run P w = .ok z w → (Instr.loadAt t ((SV.ptrS b e).conc env)).run P w = .ok z w := fun z hz => by
      simp [SV.conc, Instr.loadAt, Instr.sureAddr, hz]
    split at h
    · rename_i l hg ha
      obtain ⟨ab, hmb, hg⟩ := Option.bind_eq_some_iff.1 hg
      obtain ⟨vs, rest, ty, fr, hh, hl⟩ := block_of (hm.blk b ab hmb) hg
      split at h
      · rename_i k hk
        split at h
        · rename_i es he
          cases h
          obtain ⟨h1, h2⟩ := intsOf_R he hl
          obtain ⟨h3, h4⟩ := sel_get h2 hp.1 hp.2.1
          refine ⟨_, hrun _ (run_loadVar_cell (aggSize_none ha) ?_), si_R h4⟩
          rw [cell_at hh, h1, List.getElem?_append_left (List.getElem?_eq_some_iff.1 h3).1]
          exact h3
        · cases h
      · cases h
    · rename_i ha
      split at h
      · rename_i k L hg
        cases h
        obtain ⟨ab, hmb, hg⟩ := Option.bind_eq_some_iff.1 hg
        have hlt : e < (L.length : Int) := hp.2.1
        have h0 : 0 ≤ e := hp.1
        obtain ⟨rest, ty, fr, hh, hok⟩ := ints_of (hm.blk b ab hmb) hg (fun e' => by subst e'; simp at hlt; omega)
        obtain ⟨h3, h4⟩ := sel_get hok h0 hlt
        refine ⟨_, hrun _ (run_loadVar_cell (aggSize_none ha) ?_), si_R h4⟩
        rw [cell_at hh, List.getElem?_append_left (List.getElem?_eq_some_iff.1 h3).1]
        exact h3
      · cases h
    · cases h
  · cases h

theorem idxA_sound {e : TypeId} {len b o : Nat} {ix v : AV} {ps : List Prop} {vi : Value} {n : Nat} (hb : b < m) (h : idxA P e len b o ix = some (ps, v)) (hp : allP ps) (hi : ix.R env m vi) :
    ∃ k i sz, vi = .int k i ∧ 0 ≤ i ∧ i < (len : Int) ∧ sizeA P e = some sz ∧ v.R env m (.pointer (some ⟨env b, o + i.toNat * sz, none⟩)) ∧ n = n := by
  unfold idxA at h
  split at h
  · rename_i sz k i hs hi'
    obtain ⟨rfl, hk⟩ := int_val (.inl hi') hi
    split at h
    · rename_i hb2
      simp only [Bool.and_eq_true, decide_eq_true_eq] at hb2
      cases h
      exact ⟨k, i, sz, rfl, hb2.1, hb2.2, hs, ⟨hb, rfl⟩, rfl⟩
    · cases h
  · rename_i sz k i hs hi'
    obtain ⟨rfl, hk⟩ := int_val (.inr hi') hi
    split at h
    · rename_i hb2
      simp only [Bool.and_eq_true] at hb2
      have e1 := Nat.eq_of_beq_eq_true hb2.1
      have e2 := Nat.eq_of_beq_eq_true hb2.2
      subst e1; subst e2
      cases h
      exact ⟨k, i, 1, rfl, hp.1, hp.2.1, hs, ⟨hb, by simp [SV.conc]⟩, rfl⟩
    · cases h
  · cases h

theorem idxQ_sound {e : TypeId} {n b o : Nat} {ix v : AV} {ps : List Prop} {vi : Value} (hb : b < m) (h : idxQ P e n b o ix = some (ps, v)) (hp : allP ps) (hi : ix.R env m vi) :
    ∃ k i, vi = .int k i ∧ 0 ≤ i ∧ i < (n : Int) ∧ sizeA P e = some 1 ∧ v.R env m (.pointer (some ⟨env b, o + i.toNat, none⟩)) := by
  have fin : ∀ (k : IntKind) (i : Int) (sz : Nat), sizeA P e = some sz → vi = .int k i → (match Nat.beq sz 1 with | true => some ([0 ≤ i, i < (n : Int)], AV.one (.ptrS b ((o : Int) + i))) | false => none) = some (ps, v) →
      ∃ k i, vi = .int k i ∧ 0 ≤ i ∧ i < (n : Int) ∧ sizeA P e = some 1 ∧ v.R env m (.pointer (some ⟨env b, o + i.toNat, none⟩)) := fun k i sz hs hv h => by
    split at h
    · rename_i hz
      have hz := Nat.eq_of_beq_eq_true hz
      subst hz
      cases h
      refine ⟨k, i, hv, hp.1, hp.2.1, hs, hb, ?_⟩
      have h0 : 0 ≤ i := hp.1
      simp only [SV.conc]
      congr 3
      omega
    · cases h
  unfold idxQ at h
  split at h
  · rename_i sz k i hs hi'
    exact fin k i sz hs (int_val (.inl hi') hi).1 h
  · rename_i sz k i hs hi'
    exact fin k i sz hs (int_val (.inr hi') hi).1 h
  · cases h

theorem indexAddrA_sound {t : TypeId} {x ix v : AV} {ps : List Prop} {vx vi : Value} (h : indexAddrA P t x ix = some (ps, v)) (hp : allP ps) (hx : x.R env m vx) (hi : ix.R env m vi) :
    RunV P w env m (Instr.indexAt t vx vi) v := by
  unfold indexAddrA at h
  split at h
  · rename_i n e b o hu
    obtain ⟨hb, rfl⟩ := hx
    split at h
    · rename_i hn
      have hn := of_decide_eq_true hn
      obtain ⟨k, i, sz, rfl, h0, h1, hs, hr, _⟩ := idxA_sound (n := 0) hb h hp hi
      refine ⟨_, ?_, hr⟩
      simp [SV.conc, Instr.indexAt, asIntOf, run_underlying hu, Instr.sureAddr, h0, h1, sizeA_run hs, add_addr]
    · cases h
  · rename_i e b o n c hu
    obtain ⟨hb, rfl⟩ := hx
    obtain ⟨k, i, sz, rfl, h0, h1, hs, hr, _⟩ := idxA_sound (n := 0) hb.1 h hp hi
    refine ⟨_, ?_, hr⟩
    simp [SV.conc, Instr.indexAt, asIntOf, run_underlying hu, h0, h1, sizeA_run hs, add_addr]
  · rename_i e b o n hu
    obtain ⟨hb, c, hc, _, rfl⟩ := hx
    obtain ⟨k, i, sz, rfl, h0, h1, hs, hr, _⟩ := idxA_sound (n := 0) hb h hp hi
    refine ⟨_, ?_, hr⟩
    simp [Instr.indexAt, asIntOf, run_underlying hu, h0, h1, sizeA_run hs, add_addr]
  · rename_i e b g o n hu
    obtain ⟨hb, o', ho, hg1, hg2, rfl⟩ := hx
    obtain ⟨k, i, rfl, h0, h1, hs, hr⟩ := idxQ_sound hb.1 h hp hi
    have ho : o' = o := by
      rcases ho with ho | ho
      · exact ho
      · omega
    subst ho
    refine ⟨_, ?_, hr⟩
    simp [Instr.indexAt, asIntOf, run_underlying hu, h0, h1, sizeA_run hs, add_addr]
  · rename_i e b o n hu
    obtain ⟨hb, p, c, hc, hc2, rfl, hn⟩ := hx
    obtain ⟨k, i, rfl, h0, h1, hs, hr⟩ := idxQ_sound hb h hp hi
    have hn : p = some ⟨env b, o, none⟩ := by
      rcases hn with hn | hn
      · omega
      · exact hn
    subst hn
    refine ⟨_, ?_, hr⟩
    simp [Instr.indexAt, asIntOf, run_underlying hu, h0, h1, sizeA_run hs, add_addr]
  · rename_i e b g o n hu
    obtain ⟨hb, p, c, hc, hc2, rfl, hn⟩ := hx
    unfold idxR at h
    split at h
    · rename_i qs b' e' hq
      cases h
      obtain ⟨k, i, rfl, h0, h1, hs, hr⟩ := idxQ_sound hb.1 hq hp hi
      have hn : p = some ⟨env b, env g + o, none⟩ := by
        rcases hn with hn | hn
        · omega
        · exact hn
      subst hn
      have he : b' = b ∧ e' = (o : Int) + i ∧ (0 : Int) ≤ i := by
        unfold idxQ at hq
        rw [hs] at hq
        cases hx : ix.int with
        | l k' i' =>
          rw [hx] at hq
          obtain ⟨he, _⟩ := int_val (.inl hx) hi
          cases he
          have hq : some ([0 ≤ i, i < (n : Int)], AV.one (.ptrS b ((o : Int) + i))) = some (ps, AV.one (.ptrS b' e')) := hq
          cases hq
          exact ⟨rfl, rfl, h0⟩
        | s k' i' =>
          rw [hx] at hq
          obtain ⟨he, _⟩ := int_val (.inr hx) hi
          cases he
          have hq : some ([0 ≤ i, i < (n : Int)], AV.one (.ptrS b ((o : Int) + i))) = some (ps, AV.one (.ptrS b' e')) := hq
          cases hq
          exact ⟨rfl, rfl, h0⟩
        | no => rw [hx] at hq; cases hq
      obtain ⟨rfl, rfl, h0'⟩ := he
      refine ⟨.pointer (some ⟨env b', env g + o + i.toNat, none⟩), ?_, hb, ?_⟩
      · simp [Instr.indexAt, asIntOf, run_underlying hu, h0, h1, sizeA_run hs, add_addr]
      · simp only [SV.conc]
        congr 3
        omega
    · cases h
  · cases h

theorem run_part_cell {t : TypeId} {cs : Array Value} {o : Nat} {v : Value} (ht : (isAgg t).run P w = .ok false w) (hc : cs[o]? = some v) : (part t cs o).run P w = .ok v w := by
  unfold part
  simp [ht, hc]

theorem run_part_agg {t : TypeId} {cs : List Value} {o n : Nat} (ht : (isAgg t).run P w = .ok true w) (hs : (sizeOf t).run P w = .ok n w) : (part t cs.toArray o).run P w = .ok (.agg ((cs.drop o).take n).toArray) w := by
  unfold part
  simp [ht, hs]

theorem partS {t : TypeId} {l : List SV} {vs : List Value} {o : Nat} {s : SV} (hl : All2 (SV.R env m) l vs) (ht : aggSize P t = some none) (hs : l[o]? = some s) : RunV P w env m (part t vs.toArray o) (.one s) := by
  obtain ⟨z, hz, hr⟩ := All2.get hl hs
  exact ⟨z, run_part_cell (aggSize_none ht) (by simpa using hz), hr⟩

theorem partL {t : TypeId} {l r : List SV} {vs : List Value} {o n : Nat} (hl : All2 (SV.R env m) l vs) (ht : aggSize P t = some (some n)) (hs : seg l o n = some r) : RunV P w env m (part t vs.toArray o) (.agg r) := by
  obtain ⟨h1, h2, h3⟩ := seg_spec hs
  obtain ⟨ha, hz⟩ := aggSize_some (w := w) ht
  exact ⟨_, run_part_agg ha hz, _, rfl, by rw [h1]; exact (hl.drop o).take n⟩

theorem strAt_sound {t : TypeId} {b : ByteArray} {k : IntKind} {i : Int} (hu : P.underlying t = some .string) (h0 : 0 ≤ i) (h1 : i < (b.size : Int)) :
    RunV P w env m (Instr.index t (.string b) (.int k i)) (.one (.si .u8 (sel (bytesI b) i))) := by
  have hlt : i.toNat < b.size := by omega
  refine ⟨.int .u8 ((b[i.toNat]'hlt).toNat : Int), ?_, ?_⟩
  · simp [Instr.index, asIntOf, run_underlying hu, h0, getElem?_pos, hlt]
  · have e : sel (bytesI b) i = ((b[i.toNat]'hlt).toNat : Int) := by
      have hl : i.toNat < b.data.toList.length := by simpa using hlt
      unfold sel bytesI
      rw [List.getD_eq_getElem?_getD, List.getElem?_map, List.getElem?_eq_getElem hl]
      rfl
    rw [e]
    have := (b[i.toNat]'hlt).toNat_lt
    exact ⟨⟨by simp [IntKind.min, IntKind.signed] <;> omega, by simp [IntKind.max, IntKind.signed, IntKind.bits] <;> omega⟩, rfl⟩

theorem indexA_sound {t : TypeId} {x ix v : AV} {ps : List Prop} {vx vi : Value} (h : indexA P t x ix = some (ps, v)) (hp : allP ps) (hx : x.R env m vx) (hi : ix.R env m vi) :
    RunV P w env m (Instr.index t vx vi) v := by
  unfold indexA at h
  split at h
  · rename_i n e l hu
    obtain ⟨vs, rfl, hl⟩ := hx
    have hrun : ∀ (k : IntKind) (i : Int) (sz : Nat), 0 ≤ i → i < (n : Int) → sizeA P e = some sz → ∀ z, (part e vs.toArray (i.toNat * sz)).run P w = .ok z w → (Instr.index t (.agg vs.toArray) (.int k i)).run P w = .ok z w := fun k i sz h0 h1 hs z hz => by
      simp [Instr.index, asIntOf, run_underlying hu, h0, h1, sizeA_run hs, hz]
    split at h
    · rename_i k i ha hi'
      obtain ⟨rfl, hk⟩ := int_val (.inl hi') hi
      split at h
      · rename_i sz hs hb
        simp only [Bool.and_eq_true, decide_eq_true_eq] at hb
        split at h
        · rename_i s hg
          cases h
          obtain ⟨z, hz, hr⟩ := partS (w := w) hl ha hg
          exact ⟨z, hrun k i sz hb.1 hb.2 hs z hz, hr⟩
        · cases h
      · cases h
    · rename_i k i ha hi'
      obtain ⟨rfl, hk⟩ := int_val (.inr hi') hi
      split at h
      · rename_i sz hs
        split at h
        · rename_i k' hz1 hn hk'
          have e1 := Nat.eq_of_beq_eq_true hz1
          have e2 := Nat.eq_of_beq_eq_true hn
          subst e1
          split at h
          · rename_i es he
            cases h
            obtain ⟨h1, h2⟩ := intsOf_R he hl
            have hlen : es.length = n := by
              have := hl.length
              rw [h1] at this
              simp at this
              omega
            obtain ⟨h3, h4⟩ := sel_get h2 hp.1 (by rw [hlen]; exact hp.2.1)
            refine ⟨_, hrun k i 1 hp.1 hp.2.1 hs _ (run_part_cell (aggSize_none ha) ?_), si_R h4⟩
            rw [h1]
            simpa using h3
          · cases h
        · cases h
      · cases h
    · rename_i sz k i ha hi'
      obtain ⟨rfl, hk⟩ := int_val (.inl hi') hi
      split at h
      · rename_i hb
        simp only [Bool.and_eq_true, decide_eq_true_eq] at hb
        split at h
        · rename_i r hg
          cases h
          obtain ⟨z, hz, hr⟩ := partL (w := w) hl ha hg
          have hs : sizeA P e = some sz := by
            unfold aggSize at ha
            unfold sizeA
            split at ha <;> cases ha <;> simp [*]
          exact ⟨z, hrun k i sz hb.1 hb.2 hs z hz, hr⟩
        · cases h
      · cases h
    · cases h
  · rename_i b hu
    obtain ⟨_, rfl⟩ := hx
    have fin : ∀ (k : IntKind) (i : Int), okI k i → strAt b i = some (ps, v) → RunV P w env m (Instr.index t (.string b) (.int k i)) v := fun k i _ he => by
      cases he
      exact strAt_sound hu hp.1 hp.2.1
    split at h
    · rename_i k i hi'
      obtain ⟨rfl, hk⟩ := int_val (.inl hi') hi
      exact fin k i hk h
    · rename_i k i hi'
      obtain ⟨rfl, hk⟩ := int_val (.inr hi') hi
      exact fin k i hk h
    · cases h
  · cases h

theorem fieldA_sound {t : TypeId} {x v : AV} {f : Nat} {ps : List Prop} {vx : Value} (h : fieldA P t x f = some (ps, v)) (hx : x.R env m vx) : RunV P w env m (Instr.field t vx f) v := by
  unfold fieldA at h
  split at h
  · rename_i fs l hu
    obtain ⟨vs, rfl, hl⟩ := hx
    split at h
    · rename_i fd hf
      have hrun : ∀ z, (part fd.type vs.toArray fd.offset).run P w = .ok z w → (Instr.field t (.agg vs.toArray) f).run P w = .ok z w := fun z hz => by
        simp [Instr.field, run_underlying hu, hf, asAgg, hz]
      split at h
      · rename_i ha
        split at h
        · rename_i s hs
          cases h
          obtain ⟨z, hz, hr⟩ := partS (w := w) hl ha hs
          exact ⟨z, hrun z hz, hr⟩
        · cases h
      · rename_i sz ha
        split at h
        · rename_i r hs
          cases h
          obtain ⟨z, hz, hr⟩ := partL (w := w) hl ha hs
          exact ⟨z, hrun z hz, hr⟩
        · cases h
      · cases h
    · cases h
  · cases h

theorem fieldAddrA_sound {t : TypeId} {x v : AV} {f : Nat} {ps : List Prop} {vx : Value} (h : fieldAddrA P t x f = some (ps, v)) (hx : x.R env m vx) : RunV P w env m (Instr.fieldAt t vx f) v := by
  unfold fieldAddrA at h
  split at h
  · rename_i fs b o hu
    obtain ⟨hb, rfl⟩ := hx
    split at h
    · rename_i fd hf
      split at h
      · rename_i n hs
        cases h
        refine ⟨_, ?_, ⟨hb, rfl⟩⟩
        simp [SV.conc, Instr.fieldAt, run_underlying hu, hf, Instr.sureAddr, fieldPlace, sizeA_run hs, add_addr]
      · cases h
    · cases h
  · cases h

theorem extractA_sound {x v : AV} {i : Nat} {ps : List Prop} {vx : Value} (h : extractA x i = some (ps, v)) (hx : x.R env m vx) : RunV P w env m (Instr.extract vx i) v := by
  unfold extractA at h
  split at h
  · rename_i l
    obtain ⟨vs, rfl, hl⟩ := hx
    split at h
    · rename_i s hs
      cases h
      obtain ⟨z, hz, hr⟩ := All2.get hl hs
      refine ⟨z, by simp [Instr.extract, hz], ?_⟩
      cases s with
      | one s => exact hr
      | agg l => exact hr
    · cases h
  · cases h

theorem capsOf_R : ∀ {xs : List AV} {l : List CV} {vs : List Value}, capsOf xs = some l → All2 (AV.R env m) xs vs → vs = l.map (CV.conc env) ∧ ∀ c ∈ l, c.ok m
  | [], l, [], h, _ => by cases h; exact ⟨rfl, by simp⟩
  | [], _, _ :: _, _, h => h.elim
  | _ :: _, _, [], _, h => h.elim
  | x :: xs, l, v :: vs, h, hr => by
    cases x with
    | one s =>
      cases s with
      | ptr b o =>
        simp only [capsOf] at h
        split at h
        · rename_i l' hl'
          cases h
          obtain ⟨h1, h2⟩ := capsOf_R hl' hr.2
          exact ⟨by rw [List.map_cons, ← h1, hr.1.2]; rfl, by simpa using ⟨hr.1.1, h2⟩⟩
        · cases h
      | raw u =>
        simp only [capsOf] at h
        split at h
        · rename_i l' hl'
          cases h
          obtain ⟨h1, h2⟩ := capsOf_R hl' hr.2
          exact ⟨by rw [List.map_cons, ← h1, hr.1.2]; rfl, by simpa using ⟨trivial, h2⟩⟩
        · cases h
      | _ => simp [capsOf] at h
    | _ => simp [capsOf] at h

theorem makeFuncA_sound {fn : Fn} {first caps : List AV} {v : AV} {ps : List Prop} {v1 v2 : List Value} (h : makeFuncA fn first caps = some (ps, v)) (h1 : All2 (AV.R env m) first v1) (h2 : All2 (AV.R env m) caps v2) :
    RunV P w env m (Instr.makeFunc fn v1.toArray v2.toArray) v := by
  unfold makeFuncA at h
  split at h
  · rename_i f
    have : v1 = [] := by cases v1 with | nil => rfl | cons _ _ => exact h1.elim
    subst this
    split at h
    · rename_i l hl
      cases h
      obtain ⟨h3, h4⟩ := capsOf_R hl h2
      exact ⟨_, rfl, h4, by rw [h3]; rfl⟩
    · cases h
  · cases h

end
end Go.Ax
