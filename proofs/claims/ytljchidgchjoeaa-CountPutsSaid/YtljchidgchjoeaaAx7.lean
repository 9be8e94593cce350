/- The abstract executor: operations that make memory, or write into it. -/
import Derived.Test.YtljchidgchjoeaaAx6
namespace Go.Ax
open Go Go.RowKit

section
variable {C : Cfg} {B : Nat → Prop} {w0 w : World} {env : Nat → Nat} {mem : Mem}

theorem lt_of_heap {w : World} {b : Nat} {o : Obj} (h : w.heap[b]? = some o) : b < w.heap.size := (Array.getElem?_eq_some_iff.1 h).1

theorem AB.heap_lt {m : Nat} {b : Nat} {ab : AB} (h : ab.R env m B w b) (hw : ab.wr = true) : b < w.heap.size ∧ ¬ B b := by
  cases ab with
  | cells t l => obtain ⟨vs, h1, _, h3⟩ := h; exact ⟨lt_of_heap h1, h3⟩
  | row t l => obtain ⟨vs, rest, h1, _, h3⟩ := h; exact ⟨lt_of_heap h1, h3⟩
  | seq t k L g => obtain ⟨rest, h1, _, _, _, h3⟩ := h; exact ⟨lt_of_heap h1, h3⟩
  | mp k kv es => obtain ⟨ms, c, h1, _, _, h3⟩ := h; exact ⟨lt_of_heap h1, h3⟩
  | ob x => obtain ⟨o, h1, _, h3⟩ := h; exact ⟨lt_of_heap h1, h3⟩
  | fz t l => obtain ⟨vs, fr, h1, _, h3⟩ := h; exact ⟨lt_of_heap h1, h3⟩
  | _ => cases hw

def envPush (env : Nat → Nat) (n b : Nat) : Nat → Nat := fun i => if i = n then b else env i

theorem Ext.push (env : Nat → Nat) (n b : Nat) : Ext env n (envPush env n b) (n + 1) := ⟨Nat.le_succ n, fun i hi => by unfold envPush; rw [if_neg (by omega)]⟩

/-- A new block. -/
theorem MR.push {t : TypeId} {l : List SV} {vs : List Value} (h : MR C B w0 env mem w) (hl : All2 (SV.R env mem.n) l vs) :
    MR C B w0 (envPush env mem.n w.heap.size) (mem.push (.cells t l)) (w.alloc (.cells vs.toArray t)) := by
  have hb : Below w.heap.size w (w.alloc (.cells vs.toArray t)) := (Below.refl _ _).alloc (Nat.le_refl _) _
  have hx := Ext.push env mem.n w.heap.size
  have hold : ∀ i ab, i ≠ mem.n → (mem.push (.cells t l)).get i = some ab → mem.get i = some ab := fun i ab hi hg => by
    simp only [Mem.get, Mem.push] at hg ⊢
    rw [Tr.get_set_ne _ _ _ _ (Ne.symm hi)] at hg
    exact hg
  have hnew : ∀ ab, (mem.push (.cells t l)).get mem.n = some ab → ab = .cells t l := fun ab hg => Tr.get_set_eq _ _ _ _ hg
  refine ⟨h.below.trans (.of hb h.base), fun b hB => Nat.lt_of_lt_of_le (h.base b hB) hb.size, fun i ab hg => ?_, fun i ab hg => ?_, fun i j a b hi hj hij ha hb' => ?_, fun p hp => ?_, h.gd.below (.of hb h.base)⟩
  · show i < mem.n + 1
    by_cases hi : i = mem.n
    · omega
    · have := h.lt i ab (hold i ab hi hg); omega
  · by_cases hi : i = mem.n
    · subst hi
      obtain rfl := hnew ab hg
      have he : envPush env mem.n w.heap.size mem.n = w.heap.size := if_pos rfl
      refine ⟨vs, ?_, hl.imp fun _ _ => SV.R_ext hx, ?_⟩
      · rw [he]; exact heap_alloc_new w _
      · rw [he]; exact fun hb => Nat.lt_irrefl _ (h.base _ hb)
    · have hg' := hold i ab hi hg
      have he : envPush env mem.n w.heap.size i = env i := by unfold envPush; rw [if_neg hi]
      rw [he]
      exact AB.R_ext hx (AB.R_below (h.blk i ab hg') hb)
  · unfold envPush
    by_cases hi' : i = mem.n
    · by_cases hj' : j = mem.n
      · exact absurd (hi'.trans hj'.symm) hij
      · rw [if_pos hi', if_neg hj']
        have := (AB.heap_lt (h.blk j b (hold j b hj' hj)) hb').1
        omega
    · by_cases hj' : j = mem.n
      · rw [if_neg hi', if_pos hj']
        have := (AB.heap_lt (h.blk i a (hold i a hi' hi)) ha).1
        omega
      · rw [if_neg hi', if_neg hj']
        exact h.sep i j a b (hold i a hi' hi) (hold j b hj' hj) hij ha hb'
  · obtain ⟨h1, h2⟩ := h.gl p hp
    exact ⟨by unfold envPush; rw [if_neg (by omega)]; exact h1, Nat.lt_succ_of_lt h2⟩

/-- What becomes of the known blocks when one of them is written. -/
theorem MR.setRow {b : Nat} {ab ab' : AB} {cs : Array Value} (h : MR C B w0 env mem w) (hg : mem.get b = some ab) (hw : ab.wr = true) (hR : ab'.R env mem.n B (w.setRow (env b) cs) (env b)) :
    MR C B w0 env (mem.set b ab') (w.setRow (env b) cs) := by
  obtain ⟨hlt, hB⟩ := AB.heap_lt (h.blk b ab hg) hw
  have hbl : Keep B w (w.setRow (env b) cs) := ⟨⟨rfl, rfl, rfl, by simp, fun k hk => absurd hk (Nat.not_lt_zero _)⟩, fun k hk => setRow_other w _ _ _ (fun e => hB (e ▸ hk))⟩
  have hold : ∀ i ab, i ≠ b → (mem.set b ab').get i = some ab → mem.get i = some ab := fun i ab hi hg => by
    simp only [Mem.get, Mem.set] at hg ⊢
    rw [Tr.get_set_ne _ _ _ _ (Ne.symm hi)] at hg
    exact hg
  have hnew : ∀ x, (mem.set b ab').get b = some x → x = ab' := fun x hg => Tr.get_set_eq _ _ _ _ hg
  refine ⟨h.below.trans hbl, by have := h.base; simpa using this, fun i x hi => ?_, fun i x hi => ?_, fun i j x y hi hj hij hx hy => ?_, h.gl, h.gd.below hbl⟩
  · by_cases hib : i = b
    · subst hib; exact h.lt i ab hg
    · exact h.lt i x (hold i x hib hi)
  · by_cases hib : i = b
    · subst hib
      rw [hnew x hi]
      exact hR
    · have hx := hold i x hib hi
      have hr := h.blk i x hx
      cases x with
      | gone => trivial
      | cells t l =>
        have hne := h.sep i b _ ab hx hg hib rfl hw
        obtain ⟨vs, h1, h2, h3⟩ := hr
        exact ⟨vs, by rw [setRow_other w _ _ _ hne]; exact h1, h2, h3⟩
      | row t l =>
        have hne := h.sep i b _ ab hx hg hib rfl hw
        obtain ⟨vs, rest, h1, h2, h3⟩ := hr
        exact ⟨vs, rest, by rw [setRow_other w _ _ _ hne]; exact h1, h2, h3⟩
      | ro l =>
        obtain ⟨vs, rest, t, fr, h1, h2, h3⟩ := hr
        exact ⟨vs, rest, t, fr, by rw [setRow_other w _ _ _ (fun e => hB (by first | exact e ▸ h3 | exact e.symm ▸ h3))]; exact h1, h2, h3⟩
      | seq t k L g =>
        have hne := h.sep i b _ ab hx hg hib rfl hw
        obtain ⟨rest, h1, h2⟩ := hr
        exact ⟨rest, by rw [setRow_other w _ _ _ hne]; exact h1, h2⟩
      | rseq k L g =>
        rcases hr with hr | ⟨front, rest, t, fr, h1, h2, h3⟩
        · exact .inl hr
        · exact .inr ⟨front, rest, t, fr, by rw [setRow_other w _ _ _ (fun e => hB (by first | exact e ▸ h3 | exact e.symm ▸ h3))]; exact h1, h2, h3⟩
      | mp k kv es =>
        have hne := h.sep i b _ ab hx hg hib rfl hw
        obtain ⟨ms, c, h1, h2⟩ := hr
        exact ⟨ms, c, by rw [setRow_other w _ _ _ hne]; exact h1, h2⟩
      | fz t l =>
        have hne := h.sep i b _ ab hx hg hib rfl hw
        obtain ⟨vs, fr, h1, h2⟩ := hr
        exact ⟨vs, fr, by rw [setRow_other w _ _ _ hne]; exact h1, h2⟩
      | ob x =>
        have hne := h.sep i b _ ab hx hg hib rfl hw
        obtain ⟨o, h1, h2⟩ := hr
        exact ⟨o, by rw [setRow_other w _ _ _ hne]; exact h1, h2⟩
  · have key : ∀ i x, (mem.set b ab').get i = some x → x.wr = true → ∃ z, mem.get i = some z ∧ z.wr = true := fun i x hi hx => by
      by_cases hib : i = b
      · subst hib; exact ⟨ab, hg, hw⟩
      · exact ⟨x, hold i x hib hi, hx⟩
    obtain ⟨z, hz, hz'⟩ := key i x hi hx
    obtain ⟨u, hu, hu'⟩ := key j y hj hy
    exact h.sep i j z u hz hu hij hz' hu'

theorem oneCells {m : Nat} {cs : List SV} {vs : List Value} (h : All2 (SV.R env m) cs vs) (hd : cs.all SV.cell = true) : ∀ v ∈ vs, v.oneCell' = true := by
  induction cs generalizing vs with
  | nil => cases vs with
    | nil => simp
    | cons _ _ => exact h.elim
  | cons s cs ih =>
    cases vs with
    | nil => exact h.elim
    | cons v vs =>
      simp only [List.all_cons, Bool.and_eq_true] at hd
      intro u hu
      rcases List.mem_cons.1 hu with rfl | hu
      · exact SV.oneCell_of_R h.1 (fun e => by subst e; simp [SV.cell] at hd)
      · exact ih h.2 hd.2 u hu

theorem storeA_sound {t : TypeId} {x v r : AV} {ps : List Prop} {mem' : Mem} {vx vv : Value} (hm : MR C B w0 env mem w) (h : storeA C.P mem t x v = some (ps, r, mem')) (hx : x.R env mem.n vx) (hv : v.R env mem.n vv) :
    ∃ w', (Instr.storeAt t vx vv).run C.P w = .ok () w' ∧ MR C B w0 env mem' w' ∧ mem'.n = mem.n ∧ r = .tup [] := by
  unfold storeA at h
  split at h
  · rename_i b o cs n hcs hs
    obtain ⟨hb, rfl⟩ := hx
    split at h
    · cases h
    · rename_i hc
      simp only [Bool.and_eq_true] at hc
      have hlen := Nat.eq_of_beq_eq_true hc.1
      have hcr := cellsA_R hcs hv
      have hone := oneCells hcr hc.2
      have hsz : vv.cells.size = n := by rw [← Array.length_toList, ← hcr.length, hlen]
      have hlv : vv.cells.toList.length = n := by simpa using hsz
      have hrun : ∀ w', (storeCells ⟨env b, o, none⟩ vv.cells.toList).run C.P w = .ok () w' → (Instr.storeAt t ((SV.ptr b o).conc env) vv).run C.P w = .ok () w' := fun w' hw' => by
        simp [SV.conc, Instr.storeAt, Instr.sureAddr, storeVar, sizeA_run hs, hsz, hw']
      split at h
      · rename_i ty l hg
        split at h
        · rename_i hle
          have hle := of_decide_eq_true hle
          cases h
          obtain ⟨vs, h1, h2, h3⟩ := hm.blk b _ hg
          have hvs := h2.length
          have hst := run_storeCells_at C.P (env b) o ty vv.cells.toList 0 vs.toArray w h1 (by simp only [List.size_toArray]; omega) hone
          simp only [Nat.add_zero] at hst
          refine ⟨_, hrun _ hst, hm.setRow hg rfl ⟨vs.take o ++ vv.cells.toList ++ vs.drop (o + vv.cells.toList.length), ?_, ?_, h3⟩, rfl, rfl⟩
          · exact setRow_heap w (env b) _ _ ty _ h1
          · unfold splice
            rw [hlv, hlen]
            exact ((h2.take o).append hcr).append (h2.drop (o + n))
        · cases h
      · rename_i ty l hg
        split at h
        · rename_i hle
          have hle := of_decide_eq_true hle
          cases h
          obtain ⟨vs, rest, h1, h2, h3⟩ := hm.blk b _ hg
          have hvs := h2.length
          have hst := run_storeCells_at C.P (env b) o ty vv.cells.toList 0 (vs ++ rest).toArray w h1 (by simp only [List.size_toArray, List.length_append]; omega) hone
          simp only [Nat.add_zero] at hst
          refine ⟨_, hrun _ hst, hm.setRow hg rfl ⟨vs.take o ++ vv.cells.toList ++ vs.drop (o + vv.cells.toList.length), rest, ?_, ?_, h3⟩, rfl, rfl⟩
          · have e : (vs ++ rest).take o ++ vv.cells.toList ++ (vs ++ rest).drop (o + vv.cells.toList.length) = vs.take o ++ vv.cells.toList ++ vs.drop (o + vv.cells.toList.length) ++ rest := by
              rw [List.take_append_of_le_length (by omega), List.drop_append_of_le_length (by omega)]
              simp
            rw [← e]
            exact setRow_heap w (env b) _ _ ty _ h1
          · unfold splice
            rw [hlv, hlen]
            exact ((h2.take o).append hcr).append (h2.drop (o + n))
        · cases h
      · cases h
  · cases h

theorem copyA_sound {ts : Array TypeId} {rt : TypeId} {xs : List AV} {vs : List Value} {r : AV} {ps : List Prop} {mem' : Mem} (hm : MR C B w0 env mem w) (h : copyA C.P mem ts.toList xs = some (ps, r, mem')) (hx : All2 (AV.R env mem.n) xs vs) :
    ∃ val w', (Builtin.copy_ ts rt vs.toArray).run C.P w = .ok val w' ∧ MR C B w0 env mem' w' ∧ mem'.n = mem.n ∧ r.R env mem.n val := by
  unfold copyA at h
  split at h
  · rename_i dt trest b o dl dc b' o' sl sc ht
    match vs, hx with
    | [vd, vsr], hx =>
      obtain ⟨hb, rfl⟩ := hx.1
      obtain ⟨hb', rfl⟩ := hx.2.1
      split at h
      · rename_i e hu
        split at h
        · rename_i ty l src hs hg hsrc
          split at h
          · rename_i cs hseg
            split at h
            · rename_i hle
              have hle := of_decide_eq_true hle
              cases h
              obtain ⟨q1, q2, q3⟩ := seg_spec hseg
              obtain ⟨ab, hab, hsl⟩ := Option.bind_eq_some_iff.1 hsrc
              obtain ⟨us, rest, sty, fr, hh, hus⟩ := block_of (hm.blk b' ab hab) hsl
              obtain ⟨cur, c1, c2, c3⟩ := hm.blk b _ hg
              have hcs : All2 (SV.R env mem.n) cs ((us.drop o').take (min sl dl)) := by rw [q1]; exact (hus.drop o').take _
              have hl1 := hcs.length
              have hl2 := c2.length
              have hcell : ∀ j v, ((us.drop o').take (min sl dl))[j]? = some v → w.cell? ((⟨env b', o', none⟩ : Addr).add j) = some v := fun j v hj => by
                rw [add_addr, cell_at hh]
                have hj' : us[o' + j]? = some v := by
                  rw [List.getElem?_take] at hj
                  split at hj
                  · simpa [List.getElem?_drop] using hj
                  · cases hj
                rw [List.getElem?_append_left (List.getElem?_eq_some_iff.1 hj').1]
                exact hj'
              have hone := oneCells hcs q3
              have ht0 : ts[0]? = some dt := by rw [← Array.getElem?_toList, ht]; rfl
              have hsz : (sizeOf e).run C.P w = .ok 1 w := sizeA_run hs
              have hld := run_loadCells_list (P := C.P) w ⟨env b', o', none⟩ _ hcell
              have hst := run_storeCells_at C.P (env b) o ty ((us.drop o').take (min sl dl)) 0 cur.toArray w c1 (by simp only [List.size_toArray]; omega) hone
              simp only [Nat.add_zero] at hst
              have hn : ((us.drop o').take (min sl dl)).length = min sl dl := by omega
              rw [hn] at hld
              refine ⟨goInt (min sl dl : Nat), _, ?_, hm.setRow hg rfl ⟨cur.take o ++ (us.drop o').take (min sl dl) ++ cur.drop (o + ((us.drop o').take (min sl dl)).length), setRow_heap w (env b) _ _ ty _ c1, ?_, c3⟩, rfl, ?_⟩
              · have hst' := hst
                rw [hn] at hst'
                have hnm : Nat.min sl dl = min sl dl := rfl
                simp only [Builtin.copy_, ht0, SV.conc, List.getElem?_toArray, List.getElem?_cons_zero, List.getElem?_cons_succ, Sem.run_bind, run_underlying hu, Builtin.lenOf, Sem.run_pure, Result.andThen_ok, hsz, Builtin.firstCells, Nat.mul_one, hnm, hld, hst', hn]
              · unfold splice
                rw [hn, q2]
                exact ((c2.take o).append hcs).append (c2.drop (o + min sl dl))
              · rw [q2]
                exact li_R (len_ok (by have := hb.2; have := hb'.2; omega))
            · cases h
          · cases h
        · cases h
      · cases h
    | [], hx => exact hx.elim
    | [_], hx => exact hx.2.elim
    | _ :: _ :: _ :: _, hx => exact hx.2.2.elim
  · cases h

theorem all2_replicate {α β : Type} {R : α → β → Prop} {a : α} {b : β} (h : R a b) : ∀ n, All2 R (List.replicate n a) (List.replicate n b)
  | 0 => trivial
  | n + 1 => ⟨h, all2_replicate h n⟩

theorem buildSliceA_sound {t : TypeId} {len : Nat} {parts : List (Nat × AV)} {vparts : List (Nat × Value)} {ps : List Prop} {v : AV} {mem' : Mem} (hm : MR C B w0 env mem w) (h : buildSliceA C.P mem t len parts = some (ps, v, mem'))
    (hp : All2 (fun (p : Nat × AV) (q : Nat × Value) => p.1 = q.1 ∧ p.2.R env mem.n q.2) parts vparts) :
    ∃ val w' env', (Instr.buildSlice t len vparts.toArray).run C.P w = .ok val w' ∧ MR C B w0 env' mem' w' ∧ Ext env mem.n env' mem'.n ∧ v.R env' mem'.n val := by
  unfold buildSliceA at h
  split at h
  · rename_i e hu
    split at h
    · rename_i sz z hs hz
      split at h
      · rename_i l hb hf
        simp only [Bool.and_eq_true, decide_eq_true_eq] at hb
        obtain ⟨hb1, hb3⟩ := hb
        have hb1 := Nat.eq_of_beq_eq_true hb1
        subst hb1
        cases h
        obtain ⟨zv, hz1, hz2⟩ := zeroA_R (w := w) (env := env) (m := mem.n) hz
        have hzl := hz2.length
        obtain ⟨c, hc⟩ : ∃ c, zv.cells.toList = [c] := by
          cases hq : zv.cells.toList with
          | nil => rw [hq] at hzl; simp at hzl
          | cons c r => cases r with
            | nil => exact ⟨c, rfl⟩
            | cons d r => rw [hq] at hzl; simp at hzl
        have hcz : zv.cells = #[c] := by apply Array.ext'; rw [hc]
        rw [hc] at hz2
        obtain ⟨ws, hw1, hw2⟩ := fillA_R hf (all2_replicate hz2.1 len) hp
        have hrow : ((Array.range (len * 1)).map fun x => (#[c] : Array Value)[x % (#[c] : Array Value).size]!) = (List.replicate len c).toArray := by
          apply Array.ext'
          simp [Nat.mod_one, List.map_const']
        refine ⟨_, _, _, ?_, hm.push (t := e) hw2, Ext.push _ _ _, ⟨Nat.lt_succ_self _, Nat.le_refl _, by omega⟩, rfl⟩
        have h1 : ¬ len * 1 > 2 ^ 24 := by omega
        by_cases h2 : len * 1 = 0
        · have h0 : len = 0 := by omega
          have hr0 : ((Array.range (len * 1)).map fun x => (#[] : Array Value)[x % (#[] : Array Value).size]!) = (List.replicate len c).toArray := by
            subst h0
            apply Array.ext'
            simp
          simp only [Instr.buildSlice, Sem.run_bind, Result.andThen_ok, run_underlying hu, sizeA_run hs, if_neg h1, if_pos h2, Sem.run_pure, hr0, hw1]
          simp [newRow, SV.conc, envPush]
        · simp only [Instr.buildSlice, Sem.run_bind, Result.andThen_ok, run_underlying hu, sizeA_run hs, if_neg h1, if_neg h2, hz1, Sem.run_pure, hcz, hrow, hw1]
          simp [newRow, SV.conc, envPush]
      · cases h
    · cases h
  · cases h

theorem memOp0_sound {o : Oper} {tm : TM} {a : Act} {ps : List Prop} {v : AV} {mem' : Mem} (hr : Rel C B w0 env tm mem a w) (h : memOp0 C o tm mem = some (ps, v, mem')) :
    ∃ nx val w' env', (execOp a.eval o).run C.P w = .ok nx w' ∧ (nx = .value val ∨ (nx = .skip ∧ val = undef)) ∧ MR C B w0 env' mem' w' ∧ Ext env mem.n env' mem'.n ∧ v.R env' mem'.n val := by
  have hev := fun x => ev_R hr x
  unfold memOp0 at h
  unfold execOp
  split at h
  · rename_i t ho
    simp only [ho]
    split at h
    · rename_i z hz
      cases h
      obtain ⟨zv, h1, h2⟩ := zeroA_R (P := C.P) (w := w) (env := env) (m := mem.n) hz
      have hp := hr.mem.push (t := t) h2
      refine ⟨.value (.pointer (some ⟨w.heap.size, 0, none⟩)), .pointer (some ⟨w.heap.size, 0, none⟩), _, _, ?_, .inl rfl, hp, Ext.push _ _ _, ⟨Nat.lt_succ_self _, by simp only [SV.conc, envPush, if_true]⟩⟩
      simp [Instr.alloc, h1, newVar, newRow]
    · cases h
  · rename_i t x ho
    simp only [ho]
    split at h
    · rename_i cs hcs
      cases h
      have h2 := cellsA_R hcs (hev x)
      have hp := hr.mem.push (t := t) h2
      refine ⟨.value (.pointer (some ⟨w.heap.size, 0, none⟩)), .pointer (some ⟨w.heap.size, 0, none⟩), _, _, ?_, .inl rfl, hp, Ext.push _ _ _, ⟨Nat.lt_succ_self _, by simp only [SV.conc, envPush, if_true]⟩⟩
      simp [Instr.box, newVar, newRow]
    · cases h
  · rename_i t x y ho
    simp only [ho]
    obtain ⟨w', h1, h2, h3, rfl⟩ := storeA_sound hr.mem h (hev x) (hev y)
    refine ⟨.skip, undef, w', env, by simp [h1], .inr ⟨rfl, rfl⟩, h2, ?_, [], rfl, trivial⟩
    rw [h3]
    exact Ext.refl _ _
  · rename_i t n parts ho
    simp only [ho]
    have hq : All2 (fun (p : Nat × AV) (q : Nat × Value) => p.1 = q.1 ∧ p.2.R env mem.n q.2) (parts.toList.map fun p => (p.1, ev C tm p.2)) (parts.toList.map fun p => (p.1, a.eval p.2)) :=
      All2.both _ _ _ fun p _ => ⟨rfl, hev p.2⟩
    obtain ⟨val, w', env', h1, h2, h3, h4⟩ := buildSliceA_sound hr.mem h hq
    have e1 : (parts.toList.map fun p => (p.1, a.eval p.2)).toArray = parts.map fun (i, x) => (i, a.eval x) := by apply Array.ext'; simp
    rw [e1] at h1
    exact ⟨.value val, val, w', env', by simp [h1], .inl rfl, h2, h3, h4⟩
  · rename_i args ts ho
    simp only [ho]
    obtain ⟨val, w', h1, h2, h3, h4⟩ := copyA_sound (rt := o.type) hr.mem h (evL_R hr args.toList)
    have e1 : (args.toList.map a.eval).toArray = args.map a.eval := by apply Array.ext'; simp
    rw [e1] at h1
    refine ⟨.value val, val, w', env, ?_, .inl rfl, h2, ?_, ?_⟩
    · simp only [resolve, Sem.run_bind, Sem.run_pure, Result.andThen_ok, invoke, builtin, h1]
    · rw [h3]; exact Ext.refl _ _
    · rw [h3]; exact h4
  · cases h

end
end Go.Ax
