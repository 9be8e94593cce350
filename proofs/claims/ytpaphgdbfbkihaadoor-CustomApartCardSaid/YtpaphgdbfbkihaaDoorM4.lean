/- bytes.trimLeftByte's loop; a word's digits. -/
import Derived.Test.YtpaphgdbfbkihaaDoorM3
namespace Go.Proofs.YtpaphgdbfbkihaaDoor
open Go Go.Ax

def u8? (x : AV) : Option Int := match x.int with
  | .l .u8 n => some n
  | .s .u8 n => some n
  | _ => none
theorem u8_fits {x : AV} {n : Int} (h : u8? x = some n) : x.fits (.one (.si .u8 n)) := by
  unfold u8? at h
  split at h
  · rename_i n' hx
    cases h
    cases x with
    | one s =>
      cases s <;> simp only [AV.int] at hx <;> first | cases hx
      exact .inr (.inl rfl)
    | agg l => cases hx
    | tup l => cases hx
  · rename_i n' hx
    cases h
    cases x with
    | one s =>
      cases s <;> simp only [AV.int] at hx <;> first | cases hx
      exact .inl rfl
    | agg l => cases hx
    | tup l => cases hx
  · cases h
/-- How many of a list's first numbers are this one. -/
def lead (c : Int) : List Int → Nat
  | [] => 0
  | a :: l => match decide (a = c) with | true => lead c l + 1 | false => 0
theorem lead_le {c : Int} : ∀ {L : List Int}, lead c L ≤ L.length
  | [] => Nat.le_refl _
  | a :: l => by
    simp only [lead]
    split
    · have := lead_le (c := c) (L := l); simp; omega
    · omega
structure ITrim where
  t : TypeId
  L : List Int
  c : Int
  o0 : Nat
  n0 : Nat
  o : Nat
  n : Nat
def bl_trim (x : ITrim) : List AB := [.seq x.t .u8 x.L 1, .gone]
def St_trim (x : ITrim) : LS := ⟨[(0, .one (.sq 0 1 x.o x.n)), (1, .one (.si .u8 x.c))], bl_trim x⟩
noncomputable def bd_trim : Code := loopAt Tryd.f75 0
def pi_trim (s : LS) : Option ITrim := match s with
  | ⟨[(0, .one (.sq 0 1 o n)), (1, y)], [.seq t .u8 L 1, .gone]⟩ => match u8? y with
    | some c => some ⟨t, L, c, o, n, o, n⟩
    | none => none
  | _ => none
theorem pi_trim_fits (s : LS) (x : ITrim) (h : pi_trim s = some x) : s.fits (St_trim x) := by
  unfold pi_trim at h
  split at h
  · split at h
    · rename_i c hc
      cases h
      exact ⟨⟨rfl, .inl rfl, rfl, u8_fits hc, trivial⟩, rfl⟩
    · cases h
  · cases h
def ok_trim (x : ITrim) : Prop := x.o + x.n = x.L.length ∧ x.o0 = x.o ∧ x.n0 = x.n
def z_trim (x : ITrim) : Nat := lead x.c (x.L.drop x.o0)
noncomputable def F_trim (z : ITrim → Nat) : TM → Mem → Option ((AE → TM → Mem → Out) → Out) := lqF gdM 21 [] [0, 1] [.of 0] [false, false] pi_trim ok_trim fun x k => k (.exit 0) ⟨[(0, .one (.sq 0 1 (x.o0 + z x) (x.n0 - z x)))], bl_trim x⟩
theorem run_bd_trim (x : ITrim) (X : AE → Option LS → Prop) : exec cM 100 (.run bd_trim) (slots 21 (St_trim x).sl) (memX gdM (St_trim x).bl) (endX 0 21 [0, 1] [.fix 0, .fix 1] [false, false] X) =
    .br (cmpI .gtr (x.n : Int) 0) (.need ((0 : Int) ≤ 0) (.need ((0 : Int) < x.n) (.need (0 ≤ (x.o : Int) + 0) (.need ((x.o : Int) + 0 < x.L.length) (.br (cmpI .eql (sel x.L ((x.o : Int) + 0)) x.c)
      (.need ((0 : Int) ≤ 1) (.need ((1 : Int) ≤ x.n) (.need ((x.n : Int) ≤ x.n) (.need (X .normal (some ⟨[(0, .one (.sq 0 1 (x.o + (1 : Int).toNat) ((x.n : Int).toNat - (1 : Int).toNat))), (1, .one (.si .u8 x.c))], bl_trim x⟩)) (.done .any Mem.empty)))))
      (.need (X (.exit 0) (some (St_trim x))) (.done .any Mem.empty))))))) (.need (X (.exit 0) (some (St_trim x))) (.done .any Mem.empty)) := by kernel_rfl
def Inv_trim (x : ITrim) : Prop := x.o + x.n = x.L.length ∧ x.o0 ≤ x.o ∧ x.o0 + x.n0 = x.L.length ∧ z_trim x = (x.o - x.o0) + lead x.c (x.L.drop x.o)
def Ex_trim (x : ITrim) (e : AE) (s : LS) : Prop := e = .exit 0 ∧ s = ⟨[(0, .one (.sq 0 1 (x.o0 + z_trim x) (x.n0 - z_trim x)))], bl_trim x⟩
theorem lq_trim : LoopQ cM bd_trim (F_trim z_trim) := by
  refine lq_rule (C := cM) (cokM mem0 mem0 mem0 mem0) rfl (n := 100) (ri := [.fix 0, .fix 1]) (St := St_trim) (Inv := Inv_trim) (mu := fun x => x.n) (Ex := Ex_trim) pi_trim_fits (fun x h => ?_) (fun K k x _ hs e s he => ?_) (fun x hI => ?_)
  · obtain ⟨h1, h2, h3⟩ := h
    exact ⟨h1, by omega, by omega, by unfold z_trim; rw [h2]; omega⟩
  · obtain ⟨rfl, rfl⟩ := he
    exact hs
  · show Out.sat (fun _ _ => True) (exec cM 100 (.run bd_trim) (slots 21 (St_trim x).sl) (memX gdM (St_trim x).bl) (endX 0 21 [0, 1] [.fix 0, .fix 1] [false, false] _))
    rw [run_bd_trim]
    obtain ⟨t, L, c, o0, n0, o, n⟩ := x
    obtain ⟨h1, h2, h3, h4⟩ := hI
    dsimp only at h1 h2 h3 h4 ⊢
    have stop : lead c (L.drop o) = 0 → RoundOk St_trim Inv_trim (fun x => x.n) Ex_trim ⟨t, L, c, o0, n0, o, n⟩ (.exit 0) (some (St_trim ⟨t, L, c, o0, n0, o, n⟩)) := fun h0 => by
      have hz : z_trim ⟨t, L, c, o0, n0, o, n⟩ = o - o0 := by rw [h4]; omega
      refine ⟨_, ⟨rfl, rfl⟩, ⟨rfl, .inl ?_, trivial⟩, rfl⟩
      rw [hz]
      simp only
      rw [show o0 + (o - o0) = o by omega, show n0 - (o - o0) = n by omega]
    refine ⟨fun hc => ?_, fun hc => ⟨stop ?_, trivial⟩⟩
    · have hc : 0 < (n : Int) := of_decide_eq_true hc
      have hlt : o < L.length := by omega
      have hsel : sel L ((o : Int) + 0) = L[o] := by
        unfold sel
        rw [show ((o : Int) + 0).toNat = o by omega]
        simp [hlt]
      have hdrop : L.drop o = L[o] :: L.drop (o + 1) := List.drop_eq_getElem_cons hlt
      refine ⟨by omega, by omega, by omega, by omega, fun hd => ?_, fun hd => ⟨stop ?_, trivial⟩⟩
      · rw [hsel, eql_d] at hd
        have hd := of_decide_eq_true hd
        refine ⟨by omega, by omega, by omega, ⟨⟨t, L, c, o0, n0, o + 1, n - 1⟩, ⟨?_, ?_, h3, ?_⟩, ?_, fun e s' h => h, ⟨rfl, .inl ?_, rfl, .inl rfl, trivial⟩, rfl⟩, trivial⟩
        · show o + 1 + (n - 1) = L.length; omega
        · show o0 ≤ o + 1; omega
        · show z_trim ⟨t, L, c, o0, n0, o, n⟩ = (o + 1 - o0) + lead c (L.drop (o + 1))
          rw [h4, hdrop]
          simp only [lead]
          rw [decide_eq_true hd]
          simp only
          omega
        · show n - 1 < n; omega
        · show AV.one (.sq 0 1 (o + (1 : Int).toNat) ((n : Int).toNat - (1 : Int).toNat)) = AV.one (.sq 0 1 (o + 1) (n - 1))
          rfl
      · rw [hsel, eql_d] at hd
        rw [hdrop]
        simp only [lead]
        rw [hd]
    · have hc : ¬ 0 < (n : Int) := of_decide_eq_false hc
      rw [List.drop_of_length_le (by omega)]; rfl

/-! ## A word's digits -/

/-- The number of a word's bytes; none of nought. -/
def cbF : Nat → Nat → Nat
  | 0, _ => 0
  | f + 1, x => match decide (x = 0) with | true => 0 | false => cbF f (x / 256) + 1
theorem cbF_le : ∀ {f x m : Nat}, x < 256 ^ f → (cbF f x ≤ m ↔ x < 256 ^ m)
  | 0, x, m, h => by
    have : x = 0 := by simpa using h
    subst this
    simp [cbF]
    exact Nat.pow_pos (by omega)
  | f + 1, x, m, h => by
    simp only [cbF]
    cases hx : decide (x = 0) with
    | true =>
      have := of_decide_eq_true hx
      subst this
      simp
      exact Nat.pow_pos (by omega)
    | false =>
      have hx := of_decide_eq_false hx
      cases m with
      | zero => simp; exact hx
      | succ m =>
        have ih := cbF_le (f := f) (x := x / 256) (m := m) (by rw [Nat.pow_succ] at h; omega)
        rw [Nat.pow_succ]
        constructor
        · intro h'
          have := ih.1 (by simpa using h')
          omega
        · intro h'
          have := ih.2 (by omega)
          simpa using this
def dropZ (L : List Int) : List Int := L.drop (lead 0 L)
theorem bytesN_len {x : Nat} : ∀ {n : Nat}, (bytesN x n).length = n
  | 0 => rfl
  | n + 1 => by simp [bytesN, bytesN_len (n := n)]
theorem dropZ_bytes {x : Nat} : ∀ {n : Nat}, n ≤ 8 → x < 256 ^ n → dropZ (bytesN x n) = bytesN x (cbF 8 x)
  | 0, _, h => by
    have : x = 0 := by simpa using h
    subst this
    rfl
  | n + 1, hn, h => by
    have h8 : x < 256 ^ 8 := Nat.lt_of_lt_of_le h (Nat.pow_le_pow_right (by omega) hn)
    have hpos : 0 < 256 ^ n := Nat.pow_pos (by omega)
    have htop : x / 256 ^ n % 256 = x / 256 ^ n := Nat.mod_eq_of_lt (by rw [Nat.div_lt_iff_lt_mul hpos]; rw [Nat.pow_succ] at h; omega)
    by_cases hlt : x < 256 ^ n
    · have h0 : x / 256 ^ n = 0 := Nat.div_eq_of_lt hlt
      have e : bytesN x (n + 1) = ((x / 256 ^ n % 256 : Nat) : Int) :: bytesN x n := rfl
      rw [e, htop, h0]
      show dropZ (bytesN x n) = _
      exact dropZ_bytes (by omega) hlt
    · have hne : x / 256 ^ n ≠ 0 := by
        intro e
        rw [Nat.div_eq_zero_iff] at e
        omega
      have hc : cbF 8 x = n + 1 := by
        have a := (cbF_le (f := 8) (x := x) (m := n + 1) h8).2 h
        have b := (cbF_le (f := 8) (x := x) (m := n) h8)
        rcases Nat.lt_or_ge (cbF 8 x) (n + 1) with q | q
        · exact absurd (b.1 (by omega)) hlt
        · omega
      rw [hc]
      have e : bytesN x (n + 1) = ((x / 256 ^ n % 256 : Nat) : Int) :: bytesN x n := rfl
      rw [e, htop]
      unfold dropZ
      have : lead 0 (((x / 256 ^ n : Nat) : Int) :: bytesN x n) = 0 := by
        simp only [lead]
        rw [decide_eq_false (by omega)]
      rw [this]; rfl
/-- A word's digits: its bytes, as few as hold it, one at the least. -/
def nbN (x : Nat) : Nat := cbF 7 (x / 256) + 1
theorem nbN_eq {x : Nat} (h0 : x ≠ 0) : nbN x = cbF 8 x := by
  unfold nbN
  show _ = match decide (x = 0) with | true => 0 | false => cbF 7 (x / 256) + 1
  rw [decide_eq_false h0]
theorem nbN_bd {x : Nat} (h : x < 18446744073709551616) : 1 ≤ nbN x ∧ nbN x ≤ 8 := by
  unfold nbN
  have := (cbF_le (f := 7) (x := x / 256) (m := 7) (by omega)).2 (by omega)
  omega
def digN (x : Nat) : List Int := bytesN x (nbN x)
theorem digN_zero : digN 0 = [0] := rfl
theorem dig_trim {x : Nat} (h : x < 18446744073709551616) : dropZ (bytesN x 8) = if x = 0 then [] else digN x := by
  rw [dropZ_bytes (Nat.le_refl _) (by simpa using h)]
  split
  · rename_i h0; subst h0; rfl
  · rename_i h0; unfold digN; rw [nbN_eq h0]
end Go.Proofs.YtpaphgdbfbkihaaDoor
