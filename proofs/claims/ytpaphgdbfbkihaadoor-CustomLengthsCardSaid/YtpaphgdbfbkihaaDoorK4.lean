/- Layer 16's reference: numbers, texts, padding. -/
import Derived.Test.YtpaphgdbfbkihaaDoorK3
namespace Go.Proofs.YtpaphgdbfbkihaaDoor
open Go Go.Ax

theorem fn_RLeft : FnOk Tryd.prog 17 Tryd.f17 := ⟨Tryd.func17, by kernel_rfl⟩
theorem fn_RRight : FnOk Tryd.prog 19 Tryd.f19 := ⟨Tryd.func19, by kernel_rfl⟩
theorem fn_RText : FnOk Tryd.prog 34 Tryd.f34 := ⟨Tryd.func34, by kernel_rfl⟩
theorem fn_RPad : FnOk Tryd.prog 35 Tryd.f35 := ⟨Tryd.func35, by kernel_rfl⟩
theorem fn_Rdigits : FnOk Tryd.prog 44 Tryd.f44 := ⟨Tryd.func44, by kernel_rfl⟩

def u64? (x : AV) : Option Int := match x.int with
  | .l .u64 n => some n
  | .s .u64 n => some n
  | _ => none
theorem u64_fits {x : AV} {n : Int} (h : u64? x = some n) : x.fits (.one (.si .u64 n)) := by
  unfold u64? at h
  split at h
  · rename_i n' hx
    cases h
    cases x with
    | one s =>
      cases s <;> simp only [AV.int] at hx <;> first | cases hx
      exact .inr (.inl rfl)
    | agg l => cases hx
    | tup l => cases hx
  · rename_i n' hx
    cases h
    cases x with
    | one s =>
      cases s <;> simp only [AV.int] at hx <;> first | cases hx
      exact .inl rfl
    | agg l => cases hx
    | tup l => cases hx
  · cases h

structure IDig where
  n : Int
  s : Int
  x : Int
  tot : Int
def St_dig (x : IDig) : LS := ⟨[(3, .one (.si .i64 x.s)), (0, .one (.si .u64 x.n)), (4, .one (.si .u64 x.x))], []⟩
def totOf (s x : Int) : Int := s + (cbF 7 x.toNat : Int)
def pi_dig (s : LS) : Option IDig := match s with
  | ⟨[(3, y), (0, u), (4, z)], []⟩ => match i64? y, u64? u, u64? z with
    | some s, some n, some x => some ⟨n, s, x, totOf s x⟩
    | _, _, _ => none
  | _ => none
theorem pi_dig_fits (s : LS) (x : IDig) (h : pi_dig s = some x) : s.fits (St_dig x) := by
  unfold pi_dig at h
  split at h
  · split at h
    · rename_i s' n' x' h1 h0 h2
      cases h
      exact ⟨⟨rfl, i64_fits h1, rfl, u64_fits h0, rfl, u64_fits h2, trivial⟩, rfl⟩
    · cases h
  · cases h
noncomputable def bd_dig : Code := loopAt Tryd.f44 0
theorem run_bd_dig (x : IDig) (X : AE → Option LS → Prop) : exec cM 100 (.run bd_dig) (slots 16 (St_dig x).sl) (memX gdM (St_dig x).bl) (endX 0 16 [3, 0, 4] [] [] X) =
    .br (cmpI .gtr x.x 0) (.need (X .normal (some ⟨[(3, .one (.si .i64 (binI .add .i64 x.s 1))), (0, .one (.si .u64 x.n)), (4, .one (.si .u64 (binI .quo .u64 x.x 256)))], []⟩)) (.done .any Mem.empty)) (.need (X (.exit 0) (some (St_dig x))) (.done .any Mem.empty)) := by kernel_rfl
def ok_dig (x : IDig) : Prop := 0 ≤ x.x ∧ x.x < 72057594037927936 ∧ x.s = 1 ∧ x.tot = totOf x.s x.x
def Inv_dig (x : IDig) : Prop := 0 ≤ x.x ∧ x.x < 72057594037927936 ∧ 1 ≤ x.s ∧ x.tot ≤ 8 ∧ x.tot = totOf x.s x.x
def Ex_dig (x : IDig) (e : AE) (s : LS) : Prop := e = .exit 0 ∧ s = ⟨[(3, .one (.si .i64 x.tot)), (0, .one (.si .u64 x.n))], []⟩
noncomputable def F_dig (ok : IDig → Prop) : TM → Mem → Option ((AE → TM → Mem → Out) → Out) := lqF gdM 16 [] [3, 0, 4] [] [] pi_dig ok fun x k => k (.exit 0) ⟨[(3, .one (.si .i64 x.tot)), (0, .one (.si .u64 x.n))], []⟩
theorem cbF_fuel {f g x : Nat} (hf : x < 256 ^ f) (hg : x < 256 ^ g) : cbF f x = cbF g x := by
  have a := (cbF_le hf (m := cbF g x)).2 ((cbF_le hg).1 (Nat.le_refl _))
  have b := (cbF_le hg (m := cbF f x)).2 ((cbF_le hf).1 (Nat.le_refl _))
  omega
theorem lq_dig : LoopQ cM bd_dig (F_dig ok_dig) := by
  refine lq_rule (C := cM) (cokM mem0 mem0 mem0 mem0) rfl (n := 100) (ri := []) (St := St_dig) (Inv := Inv_dig) (mu := fun x => x.x.toNat) (Ex := Ex_dig) pi_dig_fits (fun x h => ?_) (fun K k x _ hs e s he => ?_) (fun x hI => ?_)
  · obtain ⟨h1, h2, h3, h4⟩ := h
    refine ⟨h1, h2, by omega, ?_, h4⟩
    rw [h4]; unfold totOf
    have := (cbF_le (f := 7) (x := x.x.toNat) (m := 7) (by omega)).2 (by omega)
    omega
  · obtain ⟨rfl, rfl⟩ := he
    exact hs
  · show Out.sat (fun _ _ => True) (exec cM 100 (.run bd_dig) (slots 16 (St_dig x).sl) (memX gdM (St_dig x).bl) (endX 0 16 [3, 0, 4] [] [] _))
    rw [run_bd_dig]
    obtain ⟨m, s, x, tot⟩ := x
    obtain ⟨h1, h2, h3, h5, h4⟩ := hI
    dsimp only at h1 h2 h3 h4 h5 ⊢
    obtain ⟨n, rfl⟩ := Int.eq_ofNat_of_zero_le h1
    unfold totOf at h4
    rw [Int.toNat_natCast] at h4
    refine ⟨fun hc => ?_, fun hc => ?_⟩
    · have hc : 0 < (n : Int) := of_decide_eq_true hc
      have e1 : binI .quo .u64 (n : Int) ((256 : Nat) : Int) = ((n / 256 : Nat) : Int) := quoN (by omega)
      have e1 : binI .quo .u64 (n : Int) 256 = ((n / 256 : Nat) : Int) := e1
      have e2 : binI .add .i64 s 1 = s + 1 := wrap_ok (ok64 (by omega) (by omega))
      rw [e1, e2]
      refine ⟨⟨⟨m, s + 1, ((n / 256 : Nat) : Int), tot⟩, ⟨by show 0 ≤ ((n / 256 : Nat) : Int); omega, by show ((n / 256 : Nat) : Int) < _; omega, by show 1 ≤ s + 1; omega, h5, ?_⟩, ?_, fun e s' h => h, ⟨rfl, .inl rfl, rfl, .inl rfl, rfl, .inl rfl, trivial⟩, rfl⟩, trivial⟩
      · show tot = s + 1 + (cbF 7 (((n / 256 : Nat) : Int)).toNat : Int)
        rw [Int.toNat_natCast]
        have c1 : cbF 7 n = cbF 6 (n / 256) + 1 := by
          show (match decide (n = 0) with | true => 0 | false => cbF 6 (n / 256) + 1) = _
          rw [decide_eq_false (by omega)]
        have c2 : cbF 7 (n / 256) = cbF 6 (n / 256) := cbF_fuel (by omega) (by omega)
        rw [h4, c1, c2]; omega
      · show (((n / 256 : Nat) : Int)).toNat < (n : Int).toNat
        omega
    · have hc : ¬ 0 < (n : Int) := of_decide_eq_false hc
      have : n = 0 := by omega
      subst this
      refine ⟨⟨_, ⟨rfl, rfl⟩, ⟨rfl, .inl ?_, rfl, .inl rfl, trivial⟩, rfl⟩, trivial⟩
      show AV.one (.si .i64 s) = AV.one (.si .i64 tot)
      rw [h4]
      have : cbF 7 0 = 0 := rfl
      rw [this]; simp

/-! ## The functions -/

def qBigV (T : List (List Int) → List Int) := (61, fsum [.one (.w .u64), .one (.w .i64)] (fun l => [1 ≤ one l 1 ∧ one l 1 ≤ 8]) fun l => .one (.p (.c (.s 5 .u8 (T l)))))
noncomputable def cDig (T : List (List Int) → List Int) (ok : IDig → Prop) : Cfg := cfgM [(44, Tryd.f44)] [] [qBigV T] [(3, bd_dig, F_dig ok)] []
def digI (n : Int) : IDig := ⟨n, 1, binI .quo .u64 n 256, totOf 1 (binI .quo .u64 n 256)⟩
noncomputable def digR (ok : IDig → Prop) (n : Int) (o : R2) : R2 := needR [bd_dig = bd_dig, ok (digI n), 1 ≤ (digI n).tot ∧ (digI n).tot ≤ 8] o
theorem run_RLeft (T : List (List Int) → List Int) (ok : IDig → Prop) (n : Int) : (callA (cDig T ok) true 1000 Tryd.f17 [.one (.si .u64 n)] (memX gdM [.gone, .gone])).view =
    digR ok n (needR [0 + (T [[n], [(digI n).tot]]).length ≤ (T [[n], [(digI n).tot]]).length, True, lenP ([IntKind.u8.wrap ((T [[n], [(digI n).tot]]).length : Int)] ++ partQ (T [[n], [(digI n).tot]]) 0 (T [[n], [(digI n).tot]]).length)]
      (leafL ([IntKind.u8.wrap ((T [[n], [(digI n).tot]]).length : Int)] ++ partQ (T [[n], [(digI n).tot]]) 0 (T [[n], [(digI n).tot]]).length) 5)) := by kernel_rfl
theorem run_RRight (T : List (List Int) → List Int) (ok : IDig → Prop) (n : Int) : (callA (cDig T ok) true 1000 Tryd.f19 [.one (.si .u64 n)] (memX gdM [.gone, .gone])).view =
    digR ok n (needR [(T [[n], [(digI n).tot]]).length = (T [[n], [(digI n).tot]]).length, True, lenP (T [[n], [(digI n).tot]] ++ [IntKind.u8.wrap ((T [[n], [(digI n).tot]]).length : Int)])]
      (leafL (T [[n], [(digI n).tot]] ++ [IntKind.u8.wrap ((T [[n], [(digI n).tot]]).length : Int)]) 5)) := by kernel_rfl
theorem digI_tot {x : Nat} (hx : x < 18446744073709551616) : (digI (x : Int)).tot = (nbN x : Int) ∧ ok_dig (digI (x : Int)) := by
  have e1 : binI .quo .u64 (x : Int) ((256 : Nat) : Int) = ((x / 256 : Nat) : Int) := quoN hx
  have e1 : binI .quo .u64 (x : Int) 256 = ((x / 256 : Nat) : Int) := e1
  unfold digI
  rw [e1]
  refine ⟨?_, by show 0 ≤ ((x / 256 : Nat) : Int); omega, by show ((x / 256 : Nat) : Int) < _; omega, rfl, rfl⟩
  unfold totOf nbN
  simp only [Int.toNat_natCast]
  omega
theorem T_Big_dig {x : Nat} (hx : x < 18446744073709551616) : T_Big [[(x : Int)], [(digI (x : Int)).tot]] = digN x := by
  rw [(digI_tot hx).1]
  show bigN (x : Int) ((nbN x : Nat) : Int).toNat = _
  rw [Int.toNat_natCast, bigN_eq hx]
  rfl
theorem digR_sat {K : RS → List Nat → List Nat → Prop} {x : Nat} (hx : x < 18446744073709551616) {o : R2} (h : o.sat K) : (digR ok_dig (x : Int) o).sat K := by
  have hb := nbN_bd hx
  obtain ⟨e, ok⟩ := digI_tot hx
  exact needR_sat ⟨rfl, ok, by rw [e]; omega, trivial⟩ h
theorem cokDig : COk (cDig T_Big ok_dig) := cokM (mem1 fn_Rdigits) mem0 (mem1 qs_Big) (mem1 lq_dig)
def q_RLeft := (17, fsum [.one (.w .u64)] (fun _ => []) fun l => .one (.p (.c (.s 5 .u8 (T_Left l)))))
def q_RRight := (19, fsum [.one (.w .u64)] (fun _ => []) fun l => .one (.p (.c (.s 5 .u8 (T_Right l)))))
theorem word_nat {Ms : Nat → List Int} (hok : okE Ms 0 (entsQ [.one (.w .u64)])) : ∃ x : Nat, (Ms 0).getD 0 0 = (x : Int) ∧ x < 18446744073709551616 := by
  obtain ⟨⟨hl, hk⟩, _⟩ := hok
  have hk : okI .u64 ((Ms 0).getD 0 0) := by
    match hq : Ms 0, hl with
    | [y], _ => exact hk y (by rw [hq]; simp)
  obtain ⟨h1, h2⟩ := of_oku hk
  obtain ⟨x, hx⟩ := Int.eq_ofNat_of_zero_le h1
  exact ⟨x, hx, by omega⟩
set_option maxRecDepth 100000 in
theorem qs_RLeft : FOk cM q_RLeft.1 q_RLeft.2 :=
  upM (fok_run (C := cDig T_Big ok_dig) (shs := [.one (.w .u64)]) (T := fun l => .one (.p (.c (.s 5 .u8 (T_Left l))))) (conds := fun _ => []) cokDig rfl rfl fn_RLeft (by kernel_rfl) 1000 fun Ms hok _ => ⟨_, rfl, view_sat (by
    obtain ⟨x, e, hx⟩ := word_nat hok
    refine Eq.mpr (congrArg (R2.sat _) (run_RLeft T_Big ok_dig ((Ms 0).getD 0 0))) ?_
    show R2.sat (RS.met (.p (.c (.s 5 .u8 (leftN ((Ms 0).getD 0 0).toNat))))) _
    rw [e, Int.toNat_natCast, T_Big_dig hx, partQ_all, digN_len, wrap_nb hx]
    have hb := nbN_bd hx
    exact digR_sat hx (needR_sat ⟨by omega, trivial, lenP_of (by rw [List.length_append, digN_len]; simp; omega), trivial⟩ (leafL_sat rfl)))⟩)
set_option maxRecDepth 100000 in
theorem qs_RRight : FOk cM q_RRight.1 q_RRight.2 :=
  upM (fok_run (C := cDig T_Big ok_dig) (shs := [.one (.w .u64)]) (T := fun l => .one (.p (.c (.s 5 .u8 (T_Right l))))) (conds := fun _ => []) cokDig rfl rfl fn_RRight (by kernel_rfl) 1000 fun Ms hok _ => ⟨_, rfl, view_sat (by
    obtain ⟨x, e, hx⟩ := word_nat hok
    refine Eq.mpr (congrArg (R2.sat _) (run_RRight T_Big ok_dig ((Ms 0).getD 0 0))) ?_
    show R2.sat (RS.met (.p (.c (.s 5 .u8 (rightN ((Ms 0).getD 0 0).toNat))))) _
    rw [e, Int.toNat_natCast, T_Big_dig hx, digN_len, wrap_nb hx]
    have hb := nbN_bd hx
    exact digR_sat hx (needR_sat ⟨rfl, trivial, lenP_of (by rw [List.length_append, digN_len]; simp; omega), trivial⟩ (leafL_sat rfl)))⟩)

def qRLeftV (T : List (List Int) → List Int) := (17, fsum [.one (.w .u64)] (fun _ => []) fun l => .one (.p (.c (.s 5 .u8 (T l)))))
theorem run_RText (T : List (List Int) → List Int) (n : Nat) (L : List Int) : (callA (cfgM [] [] [qRLeftV T] [] []) true 1000 Tryd.f34 [.one (.slr 0 1 0 n)] (memX gdM [.rseq .u8 L 1, .gone])).view =
    needR [(T [[IntKind.u64.wrap (binI .mul .i64 8 (n : Int))]]).length = (T [[IntKind.u64.wrap (binI .mul .i64 8 (n : Int))]]).length, 0 + n ≤ L.length, True, lenP (T [[IntKind.u64.wrap (binI .mul .i64 8 (n : Int))]] ++ partQ L 0 n)] (leafL (T [[IntKind.u64.wrap (binI .mul .i64 8 (n : Int))]] ++ partQ L 0 n) 4) := by kernel_rfl
def q_RText := (34, fsum [.one (.s .u8)] (fun l => [(l.getD 0 []).length ≤ bigLen]) fun l => .one (.p (.c (.s 5 .u8 (T_Text l)))))
set_option maxRecDepth 100000 in
theorem qs_RText : FOk cM q_RText.1 q_RText.2 :=
  upM (fok_run (C := cfgM [] [] [qRLeftV T_Left] [] []) (shs := [.one (.s .u8)]) (T := fun l => .one (.p (.c (.s 5 .u8 (T_Text l))))) (conds := fun l => [(l.getD 0 []).length ≤ bigLen]) (cokM mem0 mem0 (mem1 qs_RLeft) mem0) rfl rfl fn_RText (by kernel_rfl) 1000 fun Ms _ hc => ⟨_, rfl, view_sat (by
    have hc : (Ms 0).length ≤ bigLen := hc.1
    refine Eq.mpr (congrArg (R2.sat _) (run_RText T_Left (Ms 0).length (Ms 0))) ?_
    show R2.sat (RS.met (.p (.c (.s 5 .u8 (textN (Ms 0)))))) _
    have hb : (Ms 0).length ≤ 100000000000000 := hc
    have e : T_Left [[IntKind.u64.wrap (binI .mul .i64 8 ((Ms 0).length : Int))]] = leftN (8 * (Ms 0).length) := by
      have e1 : binI .mul .i64 8 ((Ms 0).length : Int) = ((8 * (Ms 0).length : Nat) : Int) := by
        show IntKind.i64.wrap _ = _
        rw [wrap_ok (ok64 (by omega) (by omega))]; omega
      have e2 : IntKind.u64.wrap ((8 * (Ms 0).length : Nat) : Int) = ((8 * (Ms 0).length : Nat) : Int) := wrap_ok (oku (by omega) (by omega))
      rw [e1, e2]; rfl
    rw [e, partQ_all]
    have := leftN_small (x := 8 * (Ms 0).length) (by omega)
    exact needR_sat ⟨rfl, by omega, trivial, lenP_of (by rw [List.length_append]; omega), trivial⟩ (leafL_sat rfl))⟩)
noncomputable def cRPad (T : List (List Int) → List Int) (ok : IPad → Prop) (fin : IPad → List Int) : Cfg := cfgM [] [] [qRLeftV T] [(4, bd_rpad, F_pad ok fin)] []
theorem run_RPad (T : List (List Int) → List Int) (ok : IPad → Prop) (fin : IPad → List Int) (w : Int) (n : Nat) (L : List Int) : (callA (cRPad T ok fin) true 1000 Tryd.f35 [.one (.si .i64 w), .one (.slr 2 3 0 n)] (memX gdM [.gone, .gone, .rseq .u8 L 3, .gone])).view =
    padC bd_rpad (T [[IntKind.u64.wrap w]]) L n ok fin w := by kernel_rfl
def q_RPad := (35, fsum [.one (.w .i64), .one (.s .u8)] (fun l => [(l.getD 1 []).length ≤ bigLen]) T_Pad)
set_option maxRecDepth 100000 in
theorem qs_RPad : FOk cM q_RPad.1 q_RPad.2 :=
  upM (fok_run (C := cRPad T_Left ok_pad fin_pad) (shs := [.one (.w .i64), .one (.s .u8)]) (T := T_Pad) (conds := fun l => [(l.getD 1 []).length ≤ bigLen]) (cokM mem0 mem0 (mem1 qs_RLeft) (mem1 lq_rpad)) rfl rfl fn_RPad (by kernel_rfl) 1000 fun Ms _ hc => ⟨_, rfl, view_sat (by
    have hc : (Ms 1).length ≤ bigLen := hc.1
    refine Eq.mpr (congrArg (R2.sat _) (run_RPad T_Left ok_pad fin_pad ((Ms 0).getD 0 0) (Ms 1).length (Ms 1))) ?_
    exact padC_sat hc)⟩)
end Go.Proofs.YtpaphgdbfbkihaaDoor
