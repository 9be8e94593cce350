/- The rates' table, as the executor knows it. -/
import Derived.Test.YtpaphgdbfbkihaaDoorU2
namespace Go.Proofs.YtpaphgdbfbkihaaDoor
open Go Go.Ax

section
variable {H : Type} {enc : TypeId × Value → H} {P : Program} {w : World} {base : Nat} {sp : Nat → Bool} {held : Bool}
theorem pair_cells {fuel : Nat} {t e : TypeId} {fs : Array Field} {k : IntKind} {cs : List Value} {a b : Int} {p : List MemPlace} (ht : P.underlying t = some (.struct fs)) (hfs : fs.toList.map (fun f => (f.type, f.offset)) = [(e, 0), (e, 1)])
    (he : P.underlying e = some (.int k)) (hce : P.cellsOf e = 1) (hct : P.cellsOf t = 2) (h : DataW.trod enc P w base sp held fuel t cs = some (.agg [.lit (.int k a), .lit (.int k b)], p)) : cs = [.int k a, .int k b] ∧ okI k a ∧ okI k b := by
  cases fuel with
  | zero => simp [DataW.trod] at h
  | succ fuel =>
    simp only [DataW.trod, ht, hct] at h
    split at h
    · rename_i hl
      obtain ⟨xs, hm, hx⟩ := Option.map_eq_some_iff.1 h
      have hxs : xs.map (·.1) = [.lit (.int k a), .lit (.int k b)] := by
        have := congrArg Prod.fst hx
        simpa using this
      rcases hq : fs.toList with _ | ⟨f0, _ | ⟨f1, _ | ⟨f2, fr⟩⟩⟩
      · rw [hq] at hfs; simp at hfs
      · rw [hq] at hfs; simp at hfs
      · rw [hq] at hfs
        simp only [List.map_cons, List.map_nil, List.cons.injEq, Prod.mk.injEq, and_true] at hfs
        obtain ⟨⟨e0, o0⟩, e1, o1⟩ := hfs
        rw [hq] at hm
        obtain ⟨b0, hb0, hf0⟩ := Lib.mapM_at hm 0 f0 rfl
        obtain ⟨b1, hb1, hf1⟩ := Lib.mapM_at hm 1 f1 rfl
        rw [e0, o0, hce] at hf0
        rw [e1, o1, hce] at hf1
        obtain ⟨z0, hc0, rfl, hw0⟩ := DataW.trod_int he hf0
        obtain ⟨z1, hc1, rfl, hw1⟩ := DataW.trod_int he hf1
        have h0 : (xs.map (·.1))[0]? = some (DataW.lit (.int k z0) : DataW H) := by simp [hb0]
        have h1 : (xs.map (·.1))[1]? = some (DataW.lit (.int k z1) : DataW H) := by simp [hb1]
        rw [hxs] at h0 h1
        simp only [List.getElem?_cons_zero, List.getElem?_cons_succ, Option.some.injEq, DataW.lit.injEq, Lit.int.injEq, true_and] at h0 h1
        subst h0 h1
        match cs, hl with
        | [x, y], _ =>
          simp only [List.drop_zero, List.take_succ_cons, List.take_zero, List.cons.injEq, and_true, List.drop_succ_cons] at hc0 hc1
          rw [hc0, hc1]
          exact ⟨rfl, wf_ok hw0, wf_ok hw1⟩
      · rw [hq] at hfs; simp at hfs
    · cases h
theorem pairs_cells {fuel : Nat} {t s e : TypeId} {fs : Array Field} {k : IntKind} {cs : List Value} {a b c d : Int} {p : List MemPlace} (ht : P.underlying t = some (.array 2 s)) (hs : P.underlying s = some (.struct fs)) (hfs : fs.toList.map (fun f => (f.type, f.offset)) = [(e, 0), (e, 1)])
    (he : P.underlying e = some (.int k)) (hce : P.cellsOf e = 1) (hcs : P.cellsOf s = 2) (hct : P.cellsOf t = 4) (h : DataW.trod enc P w base sp held fuel t cs = some (.agg [.agg [.lit (.int k a), .lit (.int k b)], .agg [.lit (.int k c), .lit (.int k d)]], p)) :
    cs = [.int k a, .int k b, .int k c, .int k d] ∧ (okI k a ∧ okI k b) ∧ okI k c ∧ okI k d := by
  cases fuel with
  | zero => simp [DataW.trod] at h
  | succ fuel =>
    simp only [DataW.trod, ht, hct, hcs] at h
    split at h
    · rename_i hl
      obtain ⟨xs, hm, hx⟩ := Option.map_eq_some_iff.1 h
      have hxs : xs.map (·.1) = [.agg [.lit (.int k a), .lit (.int k b)], .agg [.lit (.int k c), .lit (.int k d)]] := by
        have := congrArg Prod.fst hx
        simpa using this
      obtain ⟨b0, hb0, hf0⟩ := Lib.mapM_at hm 0 0 rfl
      obtain ⟨b1, hb1, hf1⟩ := Lib.mapM_at hm 1 1 rfl
      have h0 : (xs.map (·.1))[0]? = some b0.1 := by simp [hb0]
      have h1 : (xs.map (·.1))[1]? = some b1.1 := by simp [hb1]
      rw [hxs] at h0 h1
      simp only [List.getElem?_cons_zero, List.getElem?_cons_succ, Option.some.injEq] at h0 h1
      obtain ⟨q1, q2⟩ := pair_cells hs hfs he hce hcs (p := b0.2) (hf0.trans (by rw [h0]))
      obtain ⟨q3, q4⟩ := pair_cells hs hfs he hce hcs (p := b1.2) (hf1.trans (by rw [h1]))
      match cs, hl with
      | [x, y, z, u], _ =>
        simp at q1 q3
        obtain ⟨rfl, rfl⟩ := q1
        obtain ⟨rfl, rfl⟩ := q3
        exact ⟨rfl, q2, q4⟩
    · cases h
end

theorem fs73 : ∃ fs, Tryd.prog.underlying 73 = some (.struct fs) ∧ fs.toList.map (fun f => (f.type, f.offset)) = [(3, 0), (3, 1)] := ⟨_, Tryd.underlying73, rfl⟩
/-- What is known of a listed table of pairs. -/
theorem gd_of_pairs {W : World} {name : String} {g : Nat} {rest : List (String × DataW Unit)} {t s e : TypeId} {fs : Array Field} {k : IntKind} {a b c d : Int} (hg : Tryd.prog.globalNamed name = some g) (hty : (Tryd.prog.globals[g]?).map (·.type) = some t)
    (ht : Tryd.prog.underlying t = some (.array 2 s)) (hs : Tryd.prog.underlying s = some (.struct fs)) (hfs : fs.toList.map (fun f => (f.type, f.offset)) = [(e, 0), (e, 1)])
    (he : Tryd.prog.underlying e = some (.int k)) (hce : Tryd.prog.cellsOf e = 1) (hcs : Tryd.prog.cellsOf s = 2) (hct : Tryd.prog.cellsOf t = 4)
    (h : laidMet Tryd.prog ((name, .agg [.agg [.lit (.int k a), .lit (.int k b)], .agg [.lit (.int k c), .lit (.int k d)]]) :: rest) W) : GD [(g, [.li k a, .li k b, .li k c, .li k d])] W.heap.size W := by
  obtain ⟨ps, ⟨g', t', cs, fuel, p, q, hg', ht', hvar, hd, _, _⟩, _⟩ := h
  obtain rfl := Option.some.inj (hg.symm.trans hg')
  obtain rfl := Option.some.inj (hty.symm.trans ht')
  obtain ⟨hc, ⟨h1, h2⟩, h3, h4⟩ := pairs_cells ht hs hfs he hce hcs hct hd
  intro p hp
  rw [List.mem_singleton.1 hp]
  unfold World.var? at hvar
  rw [hg] at hvar
  simp only [Option.bind_some] at hvar
  split at hvar
  · rename_i cs' t fr hcell
    cases hvar
    refine ⟨(Array.getElem?_eq_some_iff.1 hcell).1, [.int k a, .int k b, .int k c, .int k d], [], t, fr, ?_, ⟨h1, rfl⟩, ⟨h2, rfl⟩, ⟨h3, rfl⟩, ⟨h4, rfl⟩, trivial⟩
    rw [hcell, ← hc]
    simp
  · cases hvar
theorem gd_rates {W : World} {x : String × DataW Unit} {rest : List (String × DataW Unit)} (h : laidMet Tryd.prog (x :: ("cribble/custom.rates", Rows.laid_cribble_custom_rates) :: rest) W) : GD gdR W.heap.size W := by
  obtain ⟨fs, h1, h2⟩ := fs73
  exact gd_of_pairs (g := 0) (t := 74) (s := 73) (e := 3) (by kernel_rfl) (by kernel_rfl) (by kernel_rfl) h1 h2 Tryd.underlying3 (by kernel_rfl) (by kernel_rfl) (by kernel_rfl) h.tail
/-- The same, of the tables that a row lists. -/
theorem gd_ratesH {W : World} (h : laidMetH Tryd.prog [("unicode/utf8.acceptRanges", Rows.laid_unicode_utf8_acceptRanges), ("cribble/custom.rates", Rows.laid_cribble_custom_rates), ("unicode/utf8.first", Rows.laid_unicode_utf8_first)] W) : GD gdR W.heap.size W := by
  rw [MakeChecks.laidMetH_plain _ _ _ (by kernel_rfl)] at h
  exact gd_rates h
end Go.Proofs.YtpaphgdbfbkihaaDoor
