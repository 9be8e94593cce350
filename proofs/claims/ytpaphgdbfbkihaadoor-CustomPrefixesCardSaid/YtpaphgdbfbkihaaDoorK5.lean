/- Package code: the number that bytes begin with. -/
import Derived.Test.YtpaphgdbfbkihaaDoorK4
namespace Go.Proofs.YtpaphgdbfbkihaaDoor
open Go Go.Ax

theorem fn_GetLeft : FnOk Tryd.prog 16 Tryd.f16 := ⟨Tryd.func16, by kernel_rfl⟩
noncomputable def bd_get : Code := loopAt Tryd.f16 0
structure IGet where
  L : List Int
  n : Nat
  size : Int
  o : Nat
  m : Nat
  len : Int
  i : Int
  acc : Int
  fin : Int
def bl_get (L : List Int) : List AB := [.rseq .u8 L 1, .gone]
def St_get (x : IGet) : LS := ⟨[(2, .one (.si .u64 x.acc)), (0, .one (.slr 0 1 0 x.n)), (3, .one (.si .i64 x.size)), (38, .one (.slr 0 1 x.o x.m)), (39, .one (.si .i64 x.len)), (40, .one (.si .i64 x.i))], bl_get x.L⟩
def pi_get (fin : Int → List Int → Int) (s : LS) : Option IGet := match s with
  | ⟨[(2, a), (0, .one (.slr 0 1 0 n)), (3, b), (38, .one (.slr 0 1 o m)), (39, c), (40, d)], [.rseq .u8 L 1, .gone]⟩ => match u64? a, i64? b, i64? c, i64? d with
    | some acc, some size, some len, some i => some ⟨L, n, size, o, m, len, i, acc, fin acc ((L.drop o).take m)⟩
    | _, _, _, _ => none
  | _ => none
theorem pi_get_fits {fin : Int → List Int → Int} (s : LS) (x : IGet) (h : pi_get fin s = some x) : s.fits (St_get x) := by
  unfold pi_get at h
  split at h
  · split at h
    · rename_i acc size len i h1 h2 h3 h4
      cases h
      exact ⟨⟨rfl, u64_fits h1, rfl, .inl rfl, rfl, i64_fits h2, rfl, .inl rfl, rfl, i64_fits h3, rfl, i64_fits h4, trivial⟩, rfl⟩
    · cases h
  · cases h
noncomputable def F_get (fin : Int → List Int → Int) (ok : IGet → Prop) : TM → Mem → Option ((AE → TM → Mem → Out) → Out) := lqF gdM 59 [] [2, 0, 3, 38, 39, 40] [.of 0] [false, false] (pi_get fin) ok fun x k => k (.exit 0) ⟨[(2, .one (.si .u64 x.fin)), (0, .one (.slr 0 1 0 x.n)), (3, .one (.si .i64 x.size))], bl_get x.L⟩
theorem run_bd_get (x : IGet) (X : AE → Option LS → Prop) : exec cM 100 (.run bd_get) (slots 59 (St_get x).sl) (memX gdM (St_get x).bl) (endX 0 59 [2, 0, 3, 38, 39, 40] [.fix 0, .fix 1] [false, false] X) =
    .br (cmpI .lss x.i x.len) (.need (0 ≤ x.i) (.need (x.i < (x.m : Int)) (.need (0 ≤ (x.o : Int) + x.i) (.need ((x.o : Int) + x.i < (x.L.length : Int)) (.need (X .normal (some ⟨[(2, .one (.si .u64 (binI .or .u64 (binI .shl .u64 x.acc 8) (IntKind.u64.wrap (sel x.L ((x.o : Int) + x.i)))))), (0, .one (.slr 0 1 0 x.n)), (3, .one (.si .i64 x.size)), (38, .one (.slr 0 1 x.o x.m)), (39, .one (.si .i64 x.len)), (40, .one (.si .i64 (binI .add .i64 x.i 1)))], bl_get x.L⟩)) (.done .any Mem.empty))))))
      (.need (X (.exit 0) (some (St_get x))) (.done .any Mem.empty)) := by kernel_rfl

def qEqualV (E : List (List Int) → Bool) := (43, fsum [.one (.s .u8), .one (.s .u8)] (fun _ => []) fun l => .one (.p (.c (.b (E l)))))
noncomputable def cGet (fin : Int → List Int → Int) (ok : IGet → Prop) (E : List (List Int) → Bool) (T : List (List Int) → List Int) : Cfg := cfgM [] [] [qLeftV T, qEqualV E] [(5, bd_get, F_get fin ok)] []
def noG : R2 := .leaf (.t [.c (.i .u64 0), .c (.i .i64 0), .c (.b false)]) [0, 0, 0] []
def ix0 (n : Nat) (L : List Int) : List Prop := [(0 : Int) ≤ 0, (0 : Int) < (n : Int), 0 ≤ ((0 : Nat) : Int) + 0, ((0 : Nat) : Int) + 0 < (L.length : Int)]
def szG (L : List Int) : Int := binI .add .i64 1 (IntKind.i64.wrap (sel L (((0 : Nat) : Int) + 0)))
def IG (fin : Int → List Int → Int) (n : Nat) (L : List Int) : IGet := ⟨L, n, szG L, 0 + (1 : Int).toNat, (szG L).toNat - (1 : Int).toNat, (((szG L).toNat - (1 : Int).toNat : Nat) : Int), 0, 0, fin 0 ((L.drop (0 + (1 : Int).toNat)).take ((szG L).toNat - (1 : Int).toNat))⟩
def getEnd (E : List (List Int) → Bool) (T : List Int) (fin : Int) (n : Nat) (L : List Int) : R2 :=
  needR [(0 : Int) ≤ 0, 0 ≤ szG L, szG L ≤ (n : Int), 0 + T.length ≤ T.length, 0 + (szG L).toNat ≤ L.length] (.br (!(E [partQ T 0 T.length, partQ L 0 (szG L).toNat])) noG (.leaf (.t [.c (.i .u64 fin), .c (.i .i64 (szG L)), .c (.b true)]) [0, 0, 0] []))
theorem run_GetLeft (fin : Int → List Int → Int) (ok : IGet → Prop) (E : List (List Int) → Bool) (T : List (List Int) → List Int) (n : Nat) (L : List Int) : (callA (cGet fin ok E T) true 1000 Tryd.f16 [.one (.slr 0 1 0 n)] (memX gdM (bl_get L))).view =
    .br (cmpI .lss (n : Int) 2) noG (needR (ix0 n L) (.br (cmpI .lss (sel L (((0 : Nat) : Int) + 0)) 1) noG (needR (ix0 n L) (.br (cmpI .gtr (sel L (((0 : Nat) : Int) + 0)) 8) noG (needR (ix0 n L) (.br (cmpI .leq (n : Int) (IntKind.i64.wrap (sel L (((0 : Nat) : Int) + 0)))) noG
      (needR (ix0 n L) (needR [(0 : Int) ≤ 1, 1 ≤ szG L, szG L ≤ (n : Int), bd_get = bd_get, ok (IG fin n L)] (getEnd E (T [[(IG fin n L).fin]]) (IG fin n L).fin n L))))))))) := by kernel_rfl

/-! ## The number -/

def foldN : Int → List Int → Int
  | a, [] => a
  | a, c :: l => foldN (a * 256 + c) l
theorem wrap64 (n : Nat) : IntKind.u64.wrap (n : Int) = ((n % 18446744073709551616 : Nat) : Int) := by
  simp only [IntKind.wrap, IntKind.bits, IntKind.signed, Bool.false_and, Bool.false_eq_true, if_false]
  omega
theorem shl_or {a c : Nat} (ha : a < 72057594037927936) (hc : c < 256) : binI .or .u64 (binI .shl .u64 (a : Int) 8) (IntKind.u64.wrap (c : Int)) = ((a * 256 + c : Nat) : Int) := by
  have e1 : binI .shl .u64 (a : Int) 8 = ((2 ^ 8 * a : Nat) : Int) := by
    show IntKind.u64.wrap ((a : Int) * 2 ^ (min (8 : Int).toNat IntKind.u64.bits)) = _
    have : (2 : Int) ^ (min (8 : Int).toNat IntKind.u64.bits) = 256 := by decide
    rw [this]
    have : (a : Int) * 256 = ((2 ^ 8 * a : Nat) : Int) := by omega
    rw [this, wrap64]
    omega
  have e2 : IntKind.u64.wrap (c : Int) = (c : Int) := wrap_ok (oku (by omega) (by omega))
  rw [e1, e2]
  show IntKind.u64.wrap ((BitVec.ofInt 64 ((2 ^ 8 * a : Nat) : Int) ||| BitVec.ofInt 64 (c : Int)).toNat : Int) = _
  rw [BitVec.ofInt_natCast, BitVec.ofInt_natCast, BitVec.toNat_or, BitVec.toNat_ofNat, BitVec.toNat_ofNat, Nat.mod_eq_of_lt (by omega), Nat.mod_eq_of_lt (by omega),
    ← Nat.two_pow_add_eq_or_of_lt (by omega : c < 2 ^ 8) a, wrap64]
  omega
theorem foldN_lt : ∀ {l : List Int} {a : Int} {j : Nat}, 0 ≤ a → a < 256 ^ j → (∀ y ∈ l, okI .u8 y) → 0 ≤ foldN a l ∧ foldN a l < 256 ^ (j + l.length)
  | [], a, j, h1, h2, _ => ⟨h1, h2⟩
  | c :: l, a, j, h1, h2, h3 => by
    have hc := h3 c (by simp)
    unfold okI at hc
    simp [IntKind.min, IntKind.max, IntKind.bits, IntKind.signed] at hc
    have e : (256 : Int) ^ (j + 1) = 256 ^ j * 256 := Int.pow_succ ..
    have := foldN_lt (l := l) (a := a * 256 + c) (j := j + 1) (by omega) (by rw [e]; omega) fun y hy => h3 y (by simp [hy])
    simp only [List.length_cons]
    rw [show j + (l.length + 1) = j + 1 + l.length by omega]
    exact this
def ok_get (x : IGet) : Prop := x.o + x.m ≤ x.L.length ∧ x.m ≤ 8 ∧ x.len = x.m ∧ (∀ y ∈ x.L, okI .u8 y) ∧ x.i = 0 ∧ x.acc = 0 ∧ x.fin = foldN 0 ((x.L.drop x.o).take x.m)
def Inv_get (x : IGet) : Prop := x.o + x.m ≤ x.L.length ∧ x.m ≤ 8 ∧ x.len = x.m ∧ (∀ y ∈ x.L, okI .u8 y) ∧ ∃ j : Nat, x.i = j ∧ j ≤ x.m ∧ 0 ≤ x.acc ∧ x.acc < 256 ^ j ∧ x.fin = foldN x.acc (((x.L.drop x.o).take x.m).drop j)
def Ex_get (x : IGet) (e : AE) (s : LS) : Prop := e = .exit 0 ∧ s = ⟨[(2, .one (.si .u64 x.fin)), (0, .one (.slr 0 1 0 x.n)), (3, .one (.si .i64 x.size))], bl_get x.L⟩
theorem pow256 {j : Nat} (h : j ≤ 7) : (256 : Int) ^ j ≤ 72057594037927936 := by
  match j, h with
  | 0, _ => decide
  | 1, _ => decide
  | 2, _ => decide
  | 3, _ => decide
  | 4, _ => decide
  | 5, _ => decide
  | 6, _ => decide
  | 7, _ => decide
theorem lq_get : LoopQ cM bd_get (F_get foldN ok_get) := by
  refine lq_rule (C := cM) (cokM mem0 mem0 mem0 mem0) rfl (n := 100) (ri := [.fix 0, .fix 1]) (St := St_get) (Inv := Inv_get) (mu := fun x => (x.len - x.i).toNat) (Ex := Ex_get) pi_get_fits (fun x h => ?_) (fun K k x _ hs e s he => ?_) (fun x hI => ?_)
  · obtain ⟨h1, h2, h3, h4, h5, h6, h7⟩ := h
    exact ⟨h1, h2, h3, h4, 0, h5, Nat.zero_le _, by omega, by rw [h6]; decide, by rw [h7, h6]; rfl⟩
  · obtain ⟨rfl, rfl⟩ := he
    exact hs
  · show Out.sat (fun _ _ => True) (exec cM 100 (.run bd_get) (slots 59 (St_get x).sl) (memX gdM (St_get x).bl) (endX 0 59 [2, 0, 3, 38, 39, 40] [.fix 0, .fix 1] [false, false] _))
    rw [run_bd_get]
    obtain ⟨L, n, size, o, m, len, i, acc, fin⟩ := x
    obtain ⟨h1, h2, h3, h4, j, h5, h6, h7, h8, h9⟩ := hI
    dsimp only at h1 h2 h3 h4 h5 h6 h7 h8 h9 ⊢
    subst h3 h5
    refine ⟨fun hc => ?_, fun hc => ?_⟩
    · have hc : (j : Int) < (m : Int) := of_decide_eq_true hc
      have hlt : o + j < L.length := by omega
      have hsel : sel L ((o : Int) + (j : Int)) = L[o + j] := by
        unfold sel
        rw [show ((o : Int) + (j : Int)).toNat = o + j by omega]
        simp [hlt]
      obtain ⟨a, rfl⟩ := Int.eq_ofNat_of_zero_le h7
      have hok := h4 L[o + j] (List.getElem_mem ..)
      unfold okI at hok
      simp [IntKind.min, IntKind.max, IntKind.bits, IntKind.signed] at hok
      obtain ⟨c, hcc⟩ := Int.eq_ofNat_of_zero_le hok.1
      have hp := pow256 (j := j) (by omega)
      have ha : a < 72057594037927936 := by omega
      have hc8 : c < 256 := by omega
      rw [hsel, hcc, shl_or ha hc8]
      have e2 : binI .add .i64 (j : Int) 1 = ((j + 1 : Nat) : Int) := by
        show IntKind.i64.wrap _ = _
        rw [wrap_ok (ok64 (by omega) (by omega))]; omega
      rw [e2]
      refine ⟨by omega, by omega, by omega, by omega, ⟨⟨L, n, size, o, m, (m : Int), ((j + 1 : Nat) : Int), ((a * 256 + c : Nat) : Int), fin⟩, ⟨h1, h2, rfl, h4, j + 1, rfl, by show j + 1 ≤ m; omega, by show 0 ≤ ((a * 256 + c : Nat) : Int); omega, ?_, ?_⟩, by show ((m : Int) - ((j + 1 : Nat) : Int)).toNat < ((m : Int) - (j : Int)).toNat; omega, fun e s' h => h, ⟨rfl, .inl rfl, rfl, .inl rfl, rfl, .inl rfl, rfl, .inl rfl, rfl, .inl rfl, rfl, .inl rfl, trivial⟩, rfl⟩, trivial⟩
      · show ((a * 256 + c : Nat) : Int) < 256 ^ (j + 1)
        have e : (256 : Int) ^ (j + 1) = 256 ^ j * 256 := Int.pow_succ ..
        rw [e]; omega
      · show fin = foldN ((a * 256 + c : Nat) : Int) (((L.drop o).take m).drop (j + 1))
        have hl : j < ((L.drop o).take m).length := by simp; omega
        rw [h9, List.drop_eq_getElem_cons hl]
        simp only [foldN]
        rw [show ((L.drop o).take m)[j] = (c : Int) by simp [hcc]]
        congr 1
    · have hc : ¬ (j : Int) < (m : Int) := of_decide_eq_false hc
      have : j = m := by omega
      subst this
      rw [List.drop_of_length_le (by simp; omega)] at h9
      refine ⟨⟨_, ⟨rfl, rfl⟩, ⟨rfl, .inl ?_, rfl, .inl rfl, rfl, .inl rfl, trivial⟩, rfl⟩, trivial⟩
      show AV.one (.si .u64 acc) = AV.one (.si .u64 fin)
      rw [h9]; rfl

/-! ## The function -/

def hd (M : List Int) : Int := M.getD 0 0
def nOf (M : List Int) : Int := foldN 0 ((M.drop 1).take (hd M).toNat)
/-- Do the bytes begin with a number? -/
def glB (M : List Int) : Bool := decide (2 ≤ M.length ∧ 1 ≤ hd M ∧ hd M ≤ 8 ∧ hd M < M.length ∧ leftN (nOf M).toNat = M.take (1 + (hd M).toNat))
def glN (M : List Int) : Int := iteI (glB M) (nOf M) 0
def glS (M : List Int) : Int := iteI (glB M) (1 + hd M) 0
def T_Get : List (List Int) → RT := fun l => .one (.t [.c (.i .u64 (glN (l.getD 0 []))), .c (.i .i64 (glS (l.getD 0 []))), .c (.b (glB (l.getD 0 [])))])
def q_GetLeft := (16, fsum [.one (.s .u8)] (fun _ => []) T_Get)
def E_same : List (List Int) → Bool := fun l => decide (l.getD 0 [] = l.getD 1 [])
theorem noG_sat {M : List Int} (h : ¬ (2 ≤ M.length ∧ 1 ≤ hd M ∧ hd M ≤ 8 ∧ hd M < M.length ∧ leftN (nOf M).toNat = M.take (1 + (hd M).toNat))) : noG.sat (RS.met (.t [.c (.i .u64 (glN M)), .c (.i .i64 (glS M)), .c (.b (glB M))])) := by
  have hb : glB M = false := decide_eq_false h
  unfold glN glS
  rw [hb]
  exact ⟨rfl, ⟨trivial, trivial, trivial, trivial⟩, List.nodup_nil⟩
theorem ix0_ok {M : List Int} (h : 0 < M.length) : allP (ix0 M.length M) := ⟨by omega, by omega, by omega, by omega, trivial⟩
set_option maxRecDepth 100000 in
theorem qs_GetLeft : FOk cM q_GetLeft.1 q_GetLeft.2 :=
  upM (fok_run (C := cGet foldN ok_get E_same T_Left) (shs := [.one (.s .u8)]) (T := T_Get) (conds := fun _ => []) (cokM mem0 mem0 (memc qs_Left (mem1 qs_Equal)) (mem1 lq_get)) rfl rfl fn_GetLeft (by kernel_rfl) 1000 fun Ms hok _ => ⟨_, rfl, view_sat (by
    refine Eq.mpr (congrArg (R2.sat _) (run_GetLeft foldN ok_get E_same T_Left (Ms 0).length (Ms 0))) ?_
    obtain ⟨⟨hlen, h8⟩, _⟩ := hok
    show R2.sat (RS.met (.t [.c (.i .u64 (glN (Ms 0))), .c (.i .i64 (glS (Ms 0))), .c (.b (glB (Ms 0)))])) _
    generalize Ms 0 = M at *
    have hsel : sel M (((0 : Nat) : Int) + 0) = hd M := rfl
    rw [hsel]
    refine ⟨fun h => noG_sat fun q => ?_, fun h => ?_⟩
    · have h : (M.length : Int) < 2 := of_decide_eq_true h
      omega
    have h : ¬ (M.length : Int) < 2 := of_decide_eq_false h
    have hpos : 0 < M.length := by omega
    have hk : okI .u8 (hd M) := by
      match M, hpos with
      | a :: l, _ => exact h8 a (by simp)
    unfold okI at hk
    simp [IntKind.min, IntKind.max, IntKind.bits, IntKind.signed] at hk
    have ew : IntKind.i64.wrap (hd M) = hd M := wrap_ok (ok64 (by omega) (by omega))
    refine needR_sat (ix0_ok hpos) ⟨fun h1 => noG_sat fun q => ?_, fun h1 => needR_sat (ix0_ok hpos) ⟨fun h2 => noG_sat fun q => ?_, fun h2 => needR_sat (ix0_ok hpos) ⟨fun h3 => noG_sat fun q => ?_, fun h3 => needR_sat (ix0_ok hpos) ?_⟩⟩⟩
    · have h1 : hd M < 1 := of_decide_eq_true h1
      omega
    · have h2 : 8 < hd M := of_decide_eq_true h2
      omega
    · have h3 : (M.length : Int) ≤ IntKind.i64.wrap (hd M) := of_decide_eq_true h3
      rw [ew] at h3
      omega
    have h1 : ¬ hd M < 1 := of_decide_eq_false h1
    have h2 : ¬ 8 < hd M := of_decide_eq_false h2
    have h3 : ¬ (M.length : Int) ≤ IntKind.i64.wrap (hd M) := of_decide_eq_false h3
    rw [ew] at h3
    have hsz : szG M = 1 + hd M := by
      unfold szG
      rw [hsel, ew]
      exact wrap_ok (ok64 (by omega) (by omega))
    have e1 : (szG M).toNat - (1 : Int).toNat = (hd M).toNat := by rw [hsz]; omega
    have hfin : (IG foldN M.length M).fin = nOf M := by
      show foldN 0 ((M.drop (0 + (1 : Int).toNat)).take ((szG M).toNat - (1 : Int).toNat)) = _
      rw [e1]; rfl
    have hok : ok_get (IG foldN M.length M) := by
      refine ⟨?_, ?_, rfl, h8, rfl, rfl, rfl⟩
      · show 0 + (1 : Int).toNat + ((szG M).toNat - (1 : Int).toNat) ≤ M.length
        rw [e1]; omega
      · show (szG M).toNat - (1 : Int).toNat ≤ 8
        rw [e1]; omega
    refine needR_sat ⟨by omega, by rw [hsz]; omega, by rw [hsz]; omega, rfl, hok, trivial⟩ ?_
    rw [hfin]
    have hT : T_Left [[nOf M]] = leftN (nOf M).toNat := rfl
    rw [hT]
    have hs2 : (szG M).toNat = 1 + (hd M).toNat := by rw [hsz]; omega
    unfold getEnd
    rw [partQ_all, hs2, partQ_eq, List.drop_zero]
    have hE : E_same [leftN (nOf M).toNat, M.take (1 + (hd M).toNat)] = decide (leftN (nOf M).toNat = M.take (1 + (hd M).toNat)) := rfl
    rw [hE]
    refine needR_sat ⟨by omega, by rw [hsz]; omega, by rw [hsz]; omega, by omega, by omega, trivial⟩ ⟨fun hq => noG_sat fun q => ?_, fun hq => ?_⟩
    · rw [decide_eq_true q.2.2.2.2] at hq; cases hq
    · have hq : leftN (nOf M).toNat = M.take (1 + (hd M).toNat) := by
        cases hd' : decide (leftN (nOf M).toNat = M.take (1 + (hd M).toNat)) with
        | true => exact of_decide_eq_true hd'
        | false => rw [hd'] at hq; cases hq
      have hb : glB M = true := decide_eq_true ⟨by omega, by omega, by omega, by omega, hq⟩
      unfold glN glS
      rw [hb, hsz]
      exact ⟨rfl, ⟨trivial, trivial, trivial, trivial⟩, List.nodup_nil⟩)⟩)
end Go.Proofs.YtpaphgdbfbkihaaDoor
