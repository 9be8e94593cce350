/- Layer 13: rounds, one behind the other. -/
import Derived.Test.YtpnikmkijedmbaaDoorSp2
namespace Go.Proofs.YtpnikmkijedmbaaDoor
open Go Go.Ax

/-- So many rounds from one on. -/
def seqL (R : List Int → Int → List Int) : Nat → Nat → List Int → List Int
  | 0, _, es => es
  | d + 1, s, es => seqL R d (s + 1) (R es (s : Int))
def clampI (z : Int) : Int := mmI true (mmI false z 0) 24
def roundsL (R : List Int → Int → List Int) (es : List Int) (a b : Int) : List Int := seqL R (clampI b - clampI a).toNat (clampI a).toNat es
def T_RoundsV (R : List Int → Int → List Int) : List (List Int) → GR := fun l => .p (.l .u64 (tab 25 (nth (roundsL R (row0 l) (one l 1) (one l 2)))))

/-! ## The program's: over a 'goto' -/

def pRoundV (R : List Int → Int → Nat → Int) := (29, gsum [.l .u64 25, .w .i64] (fun _ => []) fun l => .p (.l .u64 (tab 25 (R (row0 l) (one l 1)))))
def treeV (R : List Int → Int → Nat → Int) (e : Int) : Nat → Nat → List Int → Out
  | 0, _, _ => .bad 0
  | d + 1, s, es => .br (decide ((s : Int) < e)) (treeV R e d (s + 1) (tab 25 (R es s))) (.done (L25 es) Mem.empty)
def splitV (e : Int) (go : Nat → Out) : List Nat → Out
  | [] => .bad 30
  | v :: vs => .br (decide (e = (v : Int))) (go v) (splitV e go vs)
theorem fn_Rounds : FnOk Tryd.prog 33 Tryd.f33 := ⟨Tryd.func33, by kernel_rfl⟩
noncomputable def cRounds (R : List Int → Int → Nat → Int) : Cfg := cfgS [] [pRoundV R] [(2, (7, (List.range 25).map fun (n : Nat) => (n : Int)))]
theorem run_Rounds (R : List Int → Int → Nat → Int) (f : Nat → Int) (a b : Int) : callA (cRounds R) false 33 Tryd.f33 [L25 (tab 25 f), .one (.si .i64 a), .one (.si .i64 b)] (memG gdA) =
    splitV (clampI a) (fun v => treeV R (clampI b) 25 v (tab 25 f)) (List.range 25) := by kernel_rfl
end Go.Proofs.YtpnikmkijedmbaaDoor
