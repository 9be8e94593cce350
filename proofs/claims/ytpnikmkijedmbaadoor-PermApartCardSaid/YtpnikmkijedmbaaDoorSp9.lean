/- Layer 13: the round back; the laws PermBack and PermApart. -/
import Derived.Test.YtpnikmkijedmbaaDoorSp8
import Derived.Test.YtpnikmkijedmbaaDoorSp7
namespace Go.Proofs.YtpnikmkijedmbaaDoor
open Go Go.Ax

/-! ## What the code computes -/

def rowOf (es : List Int) (y : Nat) : List Int := tab 5 fun x => nth es (5 * y + x)
def unchi5 (es : List Int) : List Int := chi5 (chi5 (chi5 es))
theorem fn_unchi : FnOk Tryd.prog 56 Tryd.f56 := ⟨Tryd.func56, by kernel_rfl⟩
theorem run_unchi (f : Nat → Int) : callA (cfg [] [p_chi5]) false 100 Tryd.f56 [L5 (tab 5 f)] (memG gdA) = .done (L5 (unchi5 (tab 5 f))) Mem.empty := by kernel_rfl
def p_unchi := (56, gsum [.l .u64 5] (fun _ => []) fun l => .p (.l .u64 (unchi5 (row0 l))))
theorem ps_unchi : PSOk (cfg [] []) p_unchi.1 p_unchi.2 :=
  up (psok_e (C := cfg [] [p_chi5]) (cok (by simp) (by simp [ps_chi5])) rfl rfl fn_unchi rfl 100 (fun fs => [L5 (tab 5 (fs 0))]) (fun _ => rfl) fun fs _ _ => ⟨_, run_unchi (fs 0), sat_same rfl⟩)

def eff5 (es : List Int) : List Int := tab 5 fun x => xo (nth es ((x + 4) % 5)) (rot (nth es ((x + 1) % 5)) 63)
theorem fn_effect : FnOk Tryd.prog 62 Tryd.f62 := ⟨Tryd.func62, by kernel_rfl⟩
theorem run_effect (f : Nat → Int) : callA (cfg [] [p_Turn]) false 100 Tryd.f62 [L5 (tab 5 f)] (memG gdA) = .done (L5 (eff5 (tab 5 f))) Mem.empty := by kernel_rfl
def p_effect := (62, gsum [.l .u64 5] (fun _ => []) fun l => .p (.l .u64 (eff5 (row0 l))))
theorem ps_effect : PSOk (cfg [] []) p_effect.1 p_effect.2 :=
  up (psok_e (C := cfg [] [p_Turn]) (cok (by simp) (by simp [ps_Turn])) rfl rfl fn_effect rfl 100 (fun fs => [L5 (tab 5 (fs 0))]) (fun _ => rfl) fun fs _ _ => ⟨_, run_effect (fs 0), sat_same rfl⟩)

def par5 (es : List Int) : List Int := tab 5 fun x => xo (nth es x) (nth (eff5 es) x)
theorem fn_parity : FnOk Tryd.prog 61 Tryd.f61 := ⟨Tryd.func61, by kernel_rfl⟩
theorem run_parity (f : Nat → Int) : callA (cfg [] [p_effect]) false 100 Tryd.f61 [L5 (tab 5 f)] (memG gdA) = .done (L5 (par5 (tab 5 f))) Mem.empty := by kernel_rfl
def pParityV (P : List Int → Nat → Int) := (61, gsum [.l .u64 5] (fun _ => []) fun l => .p (.l .u64 (tab 5 (P (row0 l)))))
def Pn (es : List Int) (x : Nat) : Int := nth (par5 es) x
theorem Pn_tab (es : List Int) : tab 5 (Pn es) = par5 es := tab_self (by simp [par5, tab])
theorem ps_parity : PSOk (cfg [] []) (pParityV Pn).1 (pParityV Pn).2 :=
  up (psok_e (C := cfg [] [p_effect]) (cok (by simp) (by simp [ps_effect])) rfl rfl fn_parity rfl 100 (fun fs => [L5 (tab 5 (fs 0))]) (fun _ => rfl) fun fs _ _ => ⟨_, run_parity (fs 0), sat_same (by rw [Pn_tab]; rfl)⟩)

def parsV (P : List Int → Nat → Int) (es : List Int) : List Int := eff5 (iterF (fun l => tab 5 (P l)) 191 es)
def pEffV (E : List Int → Nat → Int) := (62, gsum [.l .u64 5] (fun _ => []) fun l => .p (.l .u64 (tab 5 (E (row0 l)))))
theorem fn_parities : FnOk Tryd.prog 60 Tryd.f60 := ⟨Tryd.func60, by kernel_rfl⟩
theorem run_parities (P : List Int → Nat → Int) (f : Nat → Int) : callA (cfg [] [pParityV P, p_effect]) false 1000 Tryd.f60 [L5 (tab 5 f)] (memG gdA) = .done (L5 (parsV P (tab 5 f))) Mem.empty := by kernel_rfl
def pars (es : List Int) : List Int := eff5 (iterF par5 191 es)
def p_parities := (60, gsum [.l .u64 5] (fun _ => []) fun l => .p (.l .u64 (pars (row0 l))))
theorem parsV_eq (es : List Int) : parsV Pn es = pars es := by
  unfold parsV pars
  rw [show (fun l => tab 5 (Pn l)) = par5 from funext Pn_tab]
theorem ps_parities : PSOk (cfg [] []) p_parities.1 p_parities.2 :=
  up (psok_e (C := cfg [] [pParityV Pn, p_effect]) (cok (by simp) (by simp [ps_parity, ps_effect])) rfl rfl fn_parities rfl 1000 (fun fs => [L5 (tab 5 (fs 0))]) (fun _ => rfl) fun fs _ _ => ⟨_, run_parities Pn (fs 0), sat_same (by rw [parsV_eq]; rfl)⟩)

def colsG (z : Int → Int) (es : List Int) : List Int := tab 5 fun x => colG z es (x : Nat)
def parsG (Q : List Int → Nat → Int) (es : List Int) : List Int := tab 25 fun i => xo (nth es i) (Q (colsG (xo 0) es) (i % 5))
def pParsV (Q : List Int → Nat → Int) := (60, gsum [.l .u64 5] (fun _ => []) fun l => .p (.l .u64 (tab 5 (Q (row0 l)))))
theorem fn_untheta : FnOk Tryd.prog 57 Tryd.f57 := ⟨Tryd.func57, by kernel_rfl⟩
theorem run_untheta (Q : List Int → Nat → Int) (f : Nat → Int) : callA (cfg [] [pParsV Q]) false 1000 Tryd.f57 [L25 (tab 25 f)] (memG gdA) = .done (L25 (parsG Q (tab 25 f))) Mem.empty := by kernel_rfl
def Qn (es : List Int) (x : Nat) : Int := nth (pars es) x
theorem Qn_tab (es : List Int) : tab 5 (Qn es) = pars es := tab_self (by simp [pars, eff5, tab])
theorem ps_parsV : PSOk (cfg [] []) (pParsV Qn).1 (pParsV Qn).2 := by
  have : pParsV Qn = p_parities := by unfold pParsV p_parities; rw [show (fun l : List (List Int) => GR.p (.l .u64 (tab 5 (Qn (row0 l))))) = fun l => GR.p (.l .u64 (pars (row0 l))) from funext fun l => by rw [Qn_tab]]
  rw [this]; exact ps_parities
def unthetaL (es : List Int) : List Int := tab 25 fun i => xo (nth es i) (nth (pars (tab 5 fun x => colI es (x : Nat))) (i % 5))
theorem colsG_0 {es : List Int} (h : ∀ e ∈ es, okI .u64 e) : colsG (xo 0) es = tab 5 fun x => colI es (x : Nat) := tab_congr fun x _ => by unfold colG colI; rw [xo0 (sel_ok h)]
def p_untheta := (57, gsum [.l .u64 25] (fun _ => []) fun l => .p (.l .u64 (unthetaL (row0 l))))
theorem ps_untheta : PSOk (cfg [] []) p_untheta.1 p_untheta.2 :=
  up (psok_e (C := cfg [] [pParsV Qn]) (cok (by simp) (by simp [ps_parsV])) rfl rfl fn_untheta rfl 1000 (fun fs => [L25 (tab 25 (fs 0))]) (fun _ => rfl) fun fs h _ => ⟨_, run_untheta Qn (fs 0), sat_same (by
    unfold parsG
    rw [colsG_0 (es := tab 25 (fs 0)) h.1.2]
    rfl)⟩)

def unchiL (es : List Int) : List Int := tab 25 fun i => nth (unchi5 (rowOf es (i / 5))) (i % 5)
def backRho (es : List Int) : List Int := tab 25 fun i => rot (nth es (i / 5 + 5 * ((2 * (i % 5) + 3 * (i / 5)) % 5))) (sel offs (i : Int))
def backL (es : List Int) (r : Int) : List Int := unthetaL (backRho (unchiL (iotaL es r)))
def pUnchiV (U : List Int → Nat → Int) := (56, gsum [.l .u64 5] (fun _ => []) fun l => .p (.l .u64 (tab 5 (U (row0 l)))))
def pUnthetaV (V : List Int → Nat → Int) := (57, gsum [.l .u64 25] (fun _ => []) fun l => .p (.l .u64 (tab 25 (V (row0 l)))))
def backV (U V : List Int → Nat → Int) (es : List Int) (r : Int) : List Int := tab 25 (V (backRho (tab 25 fun i => U (rowOf (iotaL es r) (i / 5)) (i % 5))))
theorem fn_Back : FnOk Tryd.prog 35 Tryd.f35 := ⟨Tryd.func35, by kernel_rfl⟩
theorem run_Back (U V : List Int → Nat → Int) (f : Nat → Int) (r : Int) : callA (cfg [] [p_Constant, pUnchiV U, p_Turn, p_Offset, pUnthetaV V]) false 1000 Tryd.f35 [L25 (tab 25 f), .one (.si .i64 r)] (memG gdA) = .done (L25 (backV U V (tab 25 f) r)) Mem.empty := by kernel_rfl
def Un (es : List Int) (x : Nat) : Int := nth (unchi5 es) x
def Vn (es : List Int) (x : Nat) : Int := nth (unthetaL es) x
theorem Un_tab (es : List Int) : tab 5 (Un es) = unchi5 es := tab_self (by simp [unchi5, chi5, tab])
theorem Vn_tab (es : List Int) : tab 25 (Vn es) = unthetaL es := tab_self (by simp [unthetaL, tab])
theorem ps_UnV : PSOk (cfg [] []) (pUnchiV Un).1 (pUnchiV Un).2 := by
  have : pUnchiV Un = p_unchi := by unfold pUnchiV p_unchi; rw [show (fun l : List (List Int) => GR.p (.l .u64 (tab 5 (Un (row0 l))))) = fun l => GR.p (.l .u64 (unchi5 (row0 l))) from funext fun l => by rw [Un_tab]]
  rw [this]; exact ps_unchi
theorem ps_VnV : PSOk (cfg [] []) (pUnthetaV Vn).1 (pUnthetaV Vn).2 := by
  have : pUnthetaV Vn = p_untheta := by unfold pUnthetaV p_untheta; rw [show (fun l : List (List Int) => GR.p (.l .u64 (tab 25 (Vn (row0 l))))) = fun l => GR.p (.l .u64 (unthetaL (row0 l))) from funext fun l => by rw [Vn_tab]]
  rw [this]; exact ps_untheta
def p_Back := (35, gsum [.l .u64 25, .w .i64] (fun _ => []) fun l => .p (.l .u64 (backL (row0 l) (one l 1))))
theorem ps_Back : PSOk (cfg [] []) p_Back.1 p_Back.2 :=
  up (psok_e (C := cfg [] [p_Constant, pUnchiV Un, p_Turn, p_Offset, pUnthetaV Vn]) (cok (by simp) (by simp [ps_Constant, ps_UnV, ps_Turn, ps_Offset, ps_VnV])) rfl rfl fn_Back rfl 1000 (fun fs => [L25 (tab 25 (fs 0)), .one (.si .i64 (fs 1 0))]) (fun _ => rfl) fun fs _ _ =>
    ⟨_, run_Back Un Vn (fs 0) (fs 1 0), sat_same (by
      unfold backV
      rw [Vn_tab]
      rfl)⟩)

end Go.Proofs.YtpnikmkijedmbaaDoor
