/- Layer 13: each round has a way back (lists of lanes). -/
import Derived.Test.YtpnikmkijedmbaaDoorSp9
namespace Go.Proofs.YtpnikmkijedmbaaDoor
open Go Go.Ax

/-! ## Lanes as words -/

def vw (es : List Int) (i : Nat) : W64 := bv (nth es i)
def okE (es : List Int) : Prop := ∀ e ∈ es, okI .u64 e
theorem okE_tab {n : Nat} {f : Nat → Int} (h : ∀ i, i < n → okI .u64 (f i)) : okE (tab n f) := fun e he => by
  obtain ⟨i, hi, rfl⟩ := List.mem_map.1 he
  exact h i (List.mem_range.1 hi)
theorem vw_tab {n i : Nat} {f : Nat → Int} (h : i < n) : vw (tab n f) i = bv (f i) := by unfold vw; rw [nth_tab h]
theorem eq_vw {n : Nat} {f : Nat → Int} {es : List Int} (hl : es.length = n) (ho : okE es) (hf : ∀ i, i < n → okI .u64 (f i)) (h : ∀ i, i < n → bv (f i) = vw es i) : tab n f = es := by
  rw [← tab_self (n := n) hl]
  exact tab_congr fun i hi => eq_of_bv (hf i hi) (nth_ok (i := i) ho) (h i hi)
theorem bv_rot (x n : Int) : bv (rot x n) = rr (n % 64).toNat (bv x) := by
  unfold rot rr
  rw [bv_nb, Nat.mod_eq_of_lt (by omega)]
theorem rot_ok (x n : Int) : okI .u64 (rot x n) := nb_ok _
theorem andNot_ok' (a b : Int) : bv (binI .andNot .u64 a b) = bv a &&& ~~~ bv b := by rw [andNot_nb, bv_nb]

/-! ## Words: theta and the way back -/

def effW (c : Nat → W64) (x : Nat) : W64 := c ((x + 4) % 5) ^^^ rr 63 (c ((x + 1) % 5))
def colW (a : Nat → W64) (x : Nat) : W64 := a x ^^^ a (x + 5) ^^^ a (x + 10) ^^^ a (x + 15) ^^^ a (x + 20)
def thetaW (a : Nat → W64) (i : Nat) : W64 := a i ^^^ effW (colW a) (i % 5)
def unthetaW (a : Nat → W64) (i : Nat) : W64 := a i ^^^ effW (iterF parW 191 (colW a)) (i % 5)
theorem effW_congr {c d : Nat → W64} (h : ∀ y, y < 5 → c y = d y) (x : Nat) : effW c x = effW d x := by
  unfold effW; rw [h _ (Nat.mod_lt _ (by decide)), h _ (Nat.mod_lt _ (by decide))]
theorem mapM_congr {a b n : Nat} {c d : Nat → W64} (h : ∀ y, y < 5 → c y = d y) (x : Nat) : mapM a b n c x = mapM a b n d x := by
  unfold mapM; rw [h _ (Nat.mod_lt _ (by decide)), h _ (Nat.mod_lt _ (by decide)), h _ (Nat.mod_lt _ (by decide))]
theorem iterM_congr {c d : Nat → W64} (h : ∀ y, y < 5 → c y = d y) : ∀ n x, x < 5 → iterF parW n c x = iterF parW n d x
  | 0, x, hx => h x hx
  | n + 1, x, _ => mapM_congr (fun y hy => iterM_congr h n y hy) x
theorem parW_eff {c : Nat → W64} {x : Nat} (hx : x < 5) : parW c x = c x ^^^ effW c x := by
  unfold parW mapM effW; rw [Nat.mod_eq_of_lt hx]
theorem colW_congr {a b : Nat → W64} (h : ∀ i, i < 25 → a i = b i) {x : Nat} (hx : x < 5) : colW a x = colW b x := by
  unfold colW; rw [h x (by omega), h (x + 5) (by omega), h (x + 10) (by omega), h (x + 15) (by omega), h (x + 20) (by omega)]
theorem xor5e (a b c d f e : W64) : (a ^^^ e) ^^^ (b ^^^ e) ^^^ (c ^^^ e) ^^^ (d ^^^ e) ^^^ (f ^^^ e) = (a ^^^ b ^^^ c ^^^ d ^^^ f) ^^^ e := eq_bits fun i _ => by
  simp only [BitVec.getLsbD_xor]
  generalize a.getLsbD i = p0
  generalize b.getLsbD i = p1
  generalize c.getLsbD i = p2
  generalize d.getLsbD i = p3
  generalize f.getLsbD i = p4
  generalize e.getLsbD i = p5
  revert p0 p1 p2 p3 p4 p5
  decide
theorem colW_add {a : Nat → W64} {e : Nat → W64} {x : Nat} (hx : x < 5) : colW (fun i => a i ^^^ e (i % 5)) x = colW a x ^^^ e x := by
  unfold colW
  have e0 : x % 5 = x := Nat.mod_eq_of_lt hx
  have e1 : (x + 5) % 5 = x := by omega
  have e2 : (x + 10) % 5 = x := by omega
  have e3 : (x + 15) % 5 = x := by omega
  have e4 : (x + 20) % 5 = x := by omega
  simp only [e0, e1, e2, e3, e4]
  exact xor5e _ _ _ _ _ _
theorem xor_back (a e : W64) : a ^^^ e ^^^ e = a := by rw [BitVec.xor_assoc, BitVec.xor_self, BitVec.xor_zero]
theorem untheta_theta (a : Nat → W64) (i : Nat) : unthetaW (thetaW a) i = a i := by
  have h5 : i % 5 < 5 := Nat.mod_lt _ (by decide)
  have hc : ∀ y, y < 5 → colW (thetaW a) y = parW (colW a) y := fun y hy => by
    rw [parW_eff hy]
    exact colW_add (a := a) (e := effW (colW a)) hy
  have hi : ∀ y, y < 5 → iterF parW 191 (colW (thetaW a)) y = colW a y := fun y hy => by
    rw [iterM_congr hc 191 y hy]
    have := iterF_add parW (colW a) 191 1
    have e : iterF parW 191 (parW (colW a)) = iterF parW 192 (colW a) := this.symm
    rw [e]
    exact par192 _ hy
  unfold unthetaW
  rw [effW_congr hi]
  unfold thetaW
  exact xor_back _ _
theorem theta_untheta (a : Nat → W64) (i : Nat) : thetaW (unthetaW a) i = a i := by
  have hc : ∀ y, y < 5 → colW (unthetaW a) y = iterF parW 191 (colW a) y := fun y hy => by
    have h1 : colW (unthetaW a) y = colW a y ^^^ effW (iterF parW 191 (colW a)) y := colW_add (a := a) (e := effW (iterF parW 191 (colW a))) hy
    have h2 : colW a y = parW (iterF parW 191 (colW a)) y := (par192 (colW a) hy).symm
    rw [h1]
    conv => lhs; lhs; rw [h2]
    rw [parW_eff hy]
    exact xor_back _ _
  unfold thetaW
  rw [effW_congr hc]
  unfold unthetaW
  exact xor_back _ _
theorem thetaW_congr {a b : Nat → W64} (h : ∀ i, i < 25 → a i = b i) {i : Nat} (hi : i < 25) : thetaW a i = thetaW b i := by
  unfold thetaW; rw [h i hi, effW_congr fun y hy => colW_congr h hy]
theorem unthetaW_congr {a b : Nat → W64} (h : ∀ i, i < 25 → a i = b i) {i : Nat} (hi : i < 25) : unthetaW a i = unthetaW b i := by
  unfold unthetaW; rw [h i hi, effW_congr fun y hy => iterM_congr (fun z hz => colW_congr h hz) 191 y hy]

/-! ## The lists' words -/

theorem bv_col (es : List Int) (z : Int) : bv (colI es z) = colW (vw es) (z % 5).toNat := by
  have hs : ∀ k : Int, 0 ≤ k → k < 5 → sel es (atI z k) = nth es ((z % 5).toNat + 5 * k.toNat) := fun k h1 h2 => by
    unfold sel nth
    congr 1
    unfold atI
    omega
  unfold colI colW vw
  rw [hs 0 (by decide) (by decide), hs 1 (by decide) (by decide), hs 2 (by decide) (by decide), hs 3 (by decide) (by decide), hs 4 (by decide) (by decide), bv_xo, bv_xo, bv_xo, bv_xo]
  rfl
theorem vw_theta (es : List Int) {i : Nat} (hi : i < 25) : vw (thetaL es) i = thetaW (vw es) i := by
  unfold thetaL
  rw [vw_tab hi, bv_xo, bv_xo, bv_rot, bv_col, bv_col]
  unfold thetaW effW
  rw [show (((i % 5 : Nat) : Int) - 1) % 5 = (((i % 5 + 4) % 5 : Nat) : Int) by omega, show (((i % 5 : Nat) : Int) + 1) % 5 = (((i % 5 + 1) % 5 : Nat) : Int) by omega]
  rfl
theorem vw_eff5 (es : List Int) {x : Nat} (hx : x < 5) : vw (eff5 es) x = effW (vw es) x := by
  unfold eff5
  rw [vw_tab hx, bv_xo, bv_rot]
  rfl
theorem vw_par5 (es : List Int) {x : Nat} (hx : x < 5) : vw (par5 es) x = parW (vw es) x := by
  rw [parW_eff hx, ← vw_eff5 es hx]
  unfold par5
  rw [vw_tab hx, bv_xo]
  rfl
theorem vw_iter (es : List Int) : ∀ n x, x < 5 → vw (iterF par5 n es) x = iterF parW n (vw es) x
  | 0, _, _ => rfl
  | n + 1, x, hx => by
    simp only [iterF]
    rw [vw_par5 _ hx]
    exact mapM_congr (fun y hy => vw_iter es n y hy) x
theorem vw_untheta (es : List Int) {i : Nat} (hi : i < 25) : vw (unthetaL es) i = unthetaW (vw es) i := by
  unfold unthetaL
  rw [vw_tab hi, bv_xo]
  unfold unthetaW
  congr 1
  show vw (pars _) (i % 5) = _
  have h5 : i % 5 < 5 := Nat.mod_lt _ (by decide)
  unfold pars
  rw [vw_eff5 _ h5]
  refine effW_congr (fun y hy => ?_) _
  rw [vw_iter _ _ _ hy]
  refine iterM_congr (fun z hz => ?_) _ _ hy
  rw [vw_tab hz, bv_col]
  congr 1
  omega
theorem unthetaL_theta {es : List Int} (hl : es.length = 25) (ho : okE es) : unthetaL (thetaL es) = es := by
  refine eq_vw hl ho (fun i hi => xo_ok _ _) fun i hi => ?_
  have := vw_untheta (thetaL es) hi
  unfold unthetaL at this
  rw [vw_tab hi] at this
  rw [this, unthetaW_congr (fun j hj => vw_theta es hj) hi]
  exact untheta_theta _ _
theorem thetaL_untheta {es : List Int} (hl : es.length = 25) (ho : okE es) : thetaL (unthetaL es) = es := by
  refine eq_vw hl ho (fun i hi => xo_ok _ _) fun i hi => ?_
  have := vw_theta (unthetaL es) hi
  unfold thetaL at this
  rw [vw_tab hi] at this
  rw [this, thetaW_congr (fun j hj => vw_untheta es hj) hi]
  exact theta_untheta _ _

/-! ## Rows -/

theorem chiW_congr {a b : Nat → W64} (h : ∀ y, y < 5 → a y = b y) {x : Nat} (hx : x < 5) : chiW a x = chiW b x := by
  unfold chiW; rw [h x hx, h _ (Nat.mod_lt _ (by decide)), h _ (Nat.mod_lt _ (by decide))]
theorem vw_chi5 (es : List Int) {x : Nat} (hx : x < 5) : vw (chi5 es) x = chiW (vw es) x := by
  unfold chi5
  rw [vw_tab hx, bv_xo, andNot_ok']
  rfl
theorem vw_chi (es : List Int) {i : Nat} (hi : i < 25) : vw (chiL es) i = chiW (fun x => vw es (5 * (i / 5) + x)) (i % 5) := by
  unfold chiL
  rw [vw_tab hi, bv_xo, andNot_ok']
  unfold chiW vw
  dsimp only
  rw [show 5 * (i / 5) + i % 5 = i by omega]
theorem vw_unchi (es : List Int) {i : Nat} (hi : i < 25) : vw (unchiL es) i = chiW (chiW (chiW (fun x => vw es (5 * (i / 5) + x)))) (i % 5) := by
  unfold unchiL
  rw [vw_tab hi]
  show vw (unchi5 _) (i % 5) = _
  have h5 : i % 5 < 5 := Nat.mod_lt _ (by decide)
  unfold unchi5
  rw [vw_chi5 _ h5]
  refine chiW_congr (fun y hy => ?_) h5
  rw [vw_chi5 _ hy]
  refine chiW_congr (fun z hz => ?_) hy
  rw [vw_chi5 _ hz]
  refine chiW_congr (fun u hu => ?_) hz
  unfold rowOf
  rw [vw_tab hu]
  rfl
theorem unchiL_ok (es : List Int) : okE (unchiL es) := okE_tab fun i hi => by
  have h5 : i % 5 < 5 := Nat.mod_lt _ (by decide)
  unfold unchi5
  rw [chi5, nth_tab h5]
  exact xo_ok _ _
theorem unchiL_chi {es : List Int} (hl : es.length = 25) (ho : okE es) : unchiL (chiL es) = es := by
  have hk := unchiL_ok (chiL es)
  refine eq_vw hl ho (fun i hi => hk _ (List.mem_map.2 ⟨i, List.mem_range.2 hi, rfl⟩)) fun i hi => ?_
  have := vw_unchi (chiL es) hi
  unfold unchiL at this
  rw [vw_tab hi] at this
  rw [this]
  have h5 : i % 5 < 5 := Nat.mod_lt _ (by decide)
  have h : ∀ x, x < 5 → vw (chiL es) (5 * (i / 5) + x) = chiW (fun x => vw es (5 * (i / 5) + x)) x := fun x hx => by
    rw [vw_chi es (by omega), show (5 * (i / 5) + x) / 5 = i / 5 by omega, show (5 * (i / 5) + x) % 5 = x by omega]
  rw [chiW_congr (fun y hy => chiW_congr (fun z hz => chiW_congr (fun u hu => h u hu) hz) hy) h5, chiW4 _ h5]
  show vw es (5 * (i / 5) + i % 5) = _
  rw [show 5 * (i / 5) + i % 5 = i by omega]
theorem chiL_unchi {es : List Int} (hl : es.length = 25) (ho : okE es) : chiL (unchiL es) = es := by
  refine eq_vw hl ho (fun i hi => xo_ok _ _) fun i hi => ?_
  have := vw_chi (unchiL es) hi
  unfold chiL at this
  rw [vw_tab hi] at this
  rw [this]
  have h5 : i % 5 < 5 := Nat.mod_lt _ (by decide)
  have h : ∀ x, x < 5 → vw (unchiL es) (5 * (i / 5) + x) = chiW (chiW (chiW (fun x => vw es (5 * (i / 5) + x)))) x := fun x hx => by
    rw [vw_unchi es (by omega), show (5 * (i / 5) + x) / 5 = i / 5 by omega, show (5 * (i / 5) + x) % 5 = x by omega]
  rw [chiW_congr h h5, chiW4 _ h5]
  show vw es (5 * (i / 5) + i % 5) = _
  rw [show 5 * (i / 5) + i % 5 = i by omega]

/-! ## Turns and places -/

theorem rr_back {o : Int} (v : W64) : rr (o % 64).toNat (rr ((-o) % 64).toNat v) = v := by
  rw [rr_rr, rr_mod (n := 0) (by omega), rr_zero]
theorem rr_back' {o : Int} (v : W64) : rr ((-o) % 64).toNat (rr (o % 64).toNat v) = v := by
  rw [rr_rr, rr_mod (n := 0) (by omega), rr_zero]
theorem place1 : ∀ i, i < 25 → ((i / 5 + 5 * ((2 * (i % 5) + 3 * (i / 5)) % 5)) % 5 + 3 * ((i / 5 + 5 * ((2 * (i % 5) + 3 * (i / 5)) % 5)) / 5)) % 5 + 5 * ((i / 5 + 5 * ((2 * (i % 5) + 3 * (i / 5)) % 5)) % 5) = i := by decide
theorem place2 : ∀ i, i < 25 → ((i % 5 + 3 * (i / 5)) % 5 + 5 * (i % 5)) / 5 + 5 * ((2 * (((i % 5 + 3 * (i / 5)) % 5 + 5 * (i % 5)) % 5) + 3 * (((i % 5 + 3 * (i / 5)) % 5 + 5 * (i % 5)) / 5)) % 5) = i := by decide
theorem backRho_pi {es : List Int} (hl : es.length = 25) (ho : okE es) : backRho (piL (rhoL es)) = es := by
  refine eq_vw hl ho (fun i hi => rot_ok _ _) fun i hi => ?_
  have hj : i / 5 + 5 * ((2 * (i % 5) + 3 * (i / 5)) % 5) < 25 := by omega
  have hk := place1 i hi
  rw [bv_rot]
  unfold piL
  rw [nth_tab hj, hk]
  unfold rhoL
  rw [nth_tab hi, bv_rot]
  exact rr_back _
theorem pi_backRho {es : List Int} (hl : es.length = 25) (ho : okE es) : piL (rhoL (backRho es)) = es := by
  have hk : ∀ {i : Nat}, i < 25 → (i % 5 + 3 * (i / 5)) % 5 + 5 * (i % 5) < 25 := fun hi => by omega
  refine eq_vw hl ho (fun i hi => ?_) fun i hi => ?_
  · unfold rhoL
    rw [nth_tab (hk hi)]
    exact rot_ok _ _
  · unfold rhoL
    rw [nth_tab (hk hi), bv_rot]
    unfold backRho
    rw [nth_tab (hk hi), bv_rot, rr_back']
    have e := place2 i hi
    rw [e]
    rfl

/-! ## Rounds -/

theorem iotaL_ok {es : List Int} (ho : okE es) (r : Int) : okE (iotaL es r) := okE_tab fun i _ => by
  match i with
  | 0 => exact xo_ok _ _
  | i + 1 => exact nth_ok ho
theorem iota_iota {es : List Int} (hl : es.length = 25) (ho : okE es) (r : Int) : iotaL (iotaL es r) r = es := by
  have e : tab 25 (nth es) = es := tab_self hl
  rw [← e]
  exact iota_twice (nth_ok ho) r
theorem len_tab {n : Nat} {f : Nat → Int} : (tab n f).length = n := by simp [tab]
theorem chiL_ok (es : List Int) : okE (chiL es) := okE_tab fun _ _ => xo_ok _ _
theorem thetaL_ok (es : List Int) : okE (thetaL es) := okE_tab fun _ _ => xo_ok _ _
theorem unthetaL_ok (es : List Int) : okE (unthetaL es) := okE_tab fun _ _ => xo_ok _ _
theorem backRho_ok (es : List Int) : okE (backRho es) := okE_tab fun _ _ => rot_ok _ _
theorem rhoL_ok (es : List Int) : okE (rhoL es) := okE_tab fun _ _ => rot_ok _ _
theorem piL_ok {es : List Int} (ho : okE es) : okE (piL es) := okE_tab fun _ _ => nth_ok ho
theorem roundL_ok (es : List Int) (r : Int) : okE (roundL es r) := iotaL_ok (chiL_ok _) r

theorem round_back {es : List Int} (hl : es.length = 25) (ho : okE es) (r : Int) : roundL (backL es r) r = es := by
  unfold roundL backL
  rw [thetaL_untheta (es := backRho _) len_tab (backRho_ok _), pi_backRho (es := unchiL _) len_tab (unchiL_ok _), chiL_unchi (es := iotaL _ _) len_tab (iotaL_ok ho r), iota_iota hl ho]
theorem back_round {es : List Int} (hl : es.length = 25) (ho : okE es) (r : Int) : backL (roundL es r) r = es := by
  unfold roundL backL
  rw [iota_iota (es := chiL _) len_tab (chiL_ok _), unchiL_chi (es := piL _) len_tab (piL_ok (rhoL_ok _)), backRho_pi (es := thetaL _) len_tab (thetaL_ok _), unthetaL_theta hl ho]

end Go.Proofs.YtpnikmkijedmbaaDoor
