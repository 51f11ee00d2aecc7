/- The contracts of tariff.Price, Sum and Amount. -/
import Derived.Test.YtbenflnpnohcjaaGreatDoorT5
import Derived.Deep.RegionWith
namespace Go.Proofs.YtbenflnpnohcjaaGreatDoor
open Go.RowKit Go.Shelf

namespace Tf
theorem costW_eq {f : Int → Int} (hf : ∀ t, 0 ≤ f t ∧ f t ≤ 1000000) : ∀ (l : List Pc) (s a b : Int), Chain f a b l → 0 ≤ s → s + 1000000 * (b - a) ≤ 4611686018427387904 →
    l.foldl (fun s p => wrap64 (s + wrap64 (p.price * wrap64 (p.til - p.frm)))) s = s + cost l
  | [], s, a, b, _, _, _ => by simp [cost]
  | p :: l, s, a, b, h, h0, h1 => by
    obtain ⟨c1, c2, c3, c4, c5⟩ := h
    have c6 := c5.le
    have hp := hf a
    rw [c4 a (Int.le_refl _) c2] at hp
    have hm0 : 0 ≤ p.price * (p.til - p.frm) := Int.mul_nonneg hp.1 (by omega)
    have hm1 : p.price * (p.til - p.frm) ≤ 1000000 * (p.til - p.frm) := Int.mul_le_mul_of_nonneg_right hp.2 (by omega)
    have w1 : wrap64 (p.til - p.frm) = p.til - p.frm := by unfold wrap64; omega
    have w2 : wrap64 (p.price * (p.til - p.frm)) = p.price * (p.til - p.frm) := by unfold wrap64; omega
    have w3 : wrap64 (s + p.price * (p.til - p.frm)) = s + p.price * (p.til - p.frm) := by unfold wrap64; omega
    rw [List.foldl_cons, w1, w2, w3, costW_eq hf l _ p.til b c5 (by omega) (by omega), cost_cons]
    omega
theorem costW_S {x : Tariff} (hx : okT x = true) (z : Int) {a b : Int} (h0 : 0 ≤ b - a) (h1 : b - a ≤ 20000000) : costW (pcsT x z a b) = S (price x z) a b := by
  have hc := pcsT_chain hx z (a := a) (b := b) (by omega)
  unfold costW
  rw [costW_eq (fun t => price_bounds hx z t) _ 0 a b hc (by omega) (by omega), hc.cost]
  omega
end Tf

theorem sumS_any (x : Tf.Tariff) (hx : Tf.okT x = true) (A : Option Addr) (c : Nat) (z a b : Int) (hz1 : -60000 ≤ z) (hz2 : z ≤ 60000) (ha : 0 ≤ a) (hb : b ≤ 20000000) (hab : a ≤ b) (B1 B2 : Nat) (w : World)
    (c10 : w.cell? ⟨B1, 0, none⟩ = some (.slice A x.rates.length c)) (c11 : w.cell? ⟨B1, 1, none⟩ = some (.int .i64 x.base)) (c20 : w.cell? ⟨B2, 0, none⟩ = some (.int .i64 z)) (hR : RatesAt w A x.rates) :
    Calls Tryz.prog 78 #[.agg #[.int .i64 a, .int .i64 b], .pointer (some ⟨B1, 0, none⟩), .pointer (some ⟨B2, 0, none⟩)] w fun e w' => e = .returned (.int .i64 (Tf.S (Tf.price x z) a b)) ∧ Below w.heap.size w w' := by
  have h := sum1_any x hx A c z a b hz1 hz2 ha hb hab B1 B2 w c10 c11 c20 hR
  rw [Tf.costW_S hx z (by omega) (by omega)] at h
  exact h

set_option maxHeartbeats 1000000 in
theorem sum_any (x : Tf.Tariff) (hx : Tf.okT x = true) (A : Option Addr) (c : Nat) (z a b : Int) (hz1 : -60000 ≤ z) (hz2 : z ≤ 60000) (ha : 0 ≤ a) (hb : b ≤ 20000000) (hab : a ≤ b) (w : World) (hR : RatesAt w A x.rates) :
    Calls Tryz.prog 57 #[.agg #[.slice A x.rates.length c, .int .i64 x.base], .int .i64 z, .agg #[.int .i64 a, .int .i64 b]] w fun e w' => e = .returned (.int .i64 (Tf.S (Tf.price x z) a b)) ∧ Below w.heap.size w w' := by
  have hb1 : Below w.heap.size w (((w.alloc (.cells #[.slice A x.rates.length c, .int .i64 x.base] 26)).alloc (.cells #[.int .i64 z] 3)).alloc (.cells #[.int .i64 a, .int .i64 b] 28)) := (((Below.refl _ w).alloc (Nat.le_refl _) _).alloc (by simp) _).alloc (by simp; omega) _
  obtain ⟨k, hk⟩ := Int.eq_ofNat_of_zero_le (show 0 ≤ (b - a) / 604800 by omega)
  have hk1 : a + 604800 * (k : Int) ≤ b := by omega
  have hk2 : b < a + 604800 * (k : Int) + 604800 := by omega
  have hk3 : (k : Int) ≤ 40 := by omega
  have hS := Tf.S_weeks x z a (b - 604800 * k) k (by omega)
  rw [show b - 604800 * (k : Int) + 604800 * k = b by omega] at hS
  have bd1 := Tf.sum_bounds hx z (a := a + 604800 * k) (b := b) hk1
  have bd2 := Tf.sum_bounds hx z (a := a) (b := a + 604800) (by omega)
  have e1 : a + (k : Int) * 604800 = a + 604800 * k := by omega
  have hc1 := fun W c10 c11 c20 hR => sumS_any x hx A c z (a + (k : Int) * 604800) b hz1 hz2 (by omega) hb (by omega) w.heap.size (w.heap.size + 1) W c10 c11 c20 hR
  have hc2 := fun (_ : 0 < (k : Int)) W c10 c11 c20 hR => sumS_any x hx A c z a (a + 604800) hz1 hz2 ha (by omega) (by omega) w.heap.size (w.heap.size + 1) W c10 c11 c20 hR
  rw [← e1] at hS bd1 hk1
  generalize Tf.S (Tf.price x z) (a + (k : Int) * 604800) b = s1 at *
  generalize Tf.S (Tf.price x z) a (a + 604800) = s2 at *
  rw [hS]
  have hq : (0 : Int) ≤ (k : Int) * s2 ∧ (k : Int) * s2 ≤ 40 * 604800000000 := by
    have h1 : 0 ≤ s2 ∧ s2 ≤ 604800000000 := by omega
    exact ⟨Int.mul_nonneg (by omega) h1.1, by
      have := Int.mul_le_mul hk3 h1.2 h1.1 (by omega)
      omega⟩
  have HC1 := Lib.hid hc1
  have HC2 := Lib.hid hc2
  clear hS hc1 hc2 e1
  have HR1 := Lib.hid (hR.below hb1)
  have hb1s := hb1
  clear hb1
  by_cases hk0 : (0 : Int) < k
  · go_enter Tryz.func57, Tryz.ntmps57
    go_wp2_with fail
    refine (HC1.out _ (by simp [go_sem]) (by simp [go_sem]) (by simp [go_sem]) HR1.out).mono ?_
    rintro e w1 ⟨rfl, hb2⟩
    obtain ⟨hc1, hf1⟩ := bcell hb2
    have hz := hb2.size
    simp only [World.size_alloc] at hz
    go_wp2_with fail
    refine (HC2.out hk0 _ ?_ ?_ ?_ (HR1.out.below hb2)).mono ?_
    · simp [go_sem, hc1]
    · simp [go_sem, hc1]
    · simp [go_sem, hc1]
    rintro e w2 ⟨rfl, hb3⟩
    go_wp2
    go_ret
    exact ⟨rfl, (hb1s.trans (hb2.mono (by simp; omega))).trans (hb3.mono (by omega))⟩
  · have hk00 : (k : Int) = 0 := by omega
    have hfin : s1 + (k : Int) * s2 = s1 := by rw [hk00]; simp
    rw [hfin]
    clear hfin hk00
    have hk01 : ¬ (0 : Int) < k := hk0
    go_enter Tryz.func57, Tryz.ntmps57
    go_wp2_with fail
    refine (HC1.out _ (by simp [go_sem]) (by simp [go_sem]) (by simp [go_sem]) HR1.out).mono ?_
    rintro e w1 ⟨rfl, hb2⟩
    go_wp2
    go_ret
    exact ⟨rfl, hb1s.trans (hb2.mono (by simp; omega))⟩

theorem price_any (A : Option Addr) (c : Nat) (x : Tf.Tariff) (hl : x.rates.length ≤ 9223372036854775807) (z t : Int) (w : World) (hR : RatesAt w A x.rates) :
    Calls Tryz.prog 21 #[.agg #[.slice A x.rates.length c, .int .i64 x.base], .int .i64 z, .int .i64 t] w fun e w' =>
      e = .returned (if (Tf.okT x && (zoneB z && inB t 0 10000000)) = true then .tuple #[.int .i64 (Tf.price x z t), .int .i64 0] else .tuple #[.int .i64 0, .int .i64 370]) ∧ Below w.heap.size w w' := by
  have hb1 : Below w.heap.size w (w.alloc (.cells #[.slice A x.rates.length c, .int .i64 x.base] 26)) := (Below.refl _ w).alloc (Nat.le_refl _) _
  have hg := valid_any A c x hl _ (hR.below hb1)
  cases h1 : Tf.okT x with
  | false =>
    rw [h1] at hg
    rw [if_neg (by simp)]
    clear hR
    go_enter Tryz.func21, Tryz.ntmps21
    go_wp2_with (go_at_call 18; refine hg.mono ?_; rintro e w' ⟨rfl, hb⟩)
    go_ret2
    exact ⟨rfl, hb1.trans (hb.mono (by simp))⟩
  | true =>
    rw [h1] at hg
    cases h2 : zoneB z with
    | false =>
      rw [if_neg (by simp)]
      clear hR
      go_enter Tryz.func21, Tryz.ntmps21
      go_wp2_with (first | (go_at_call 18; refine hg.mono ?_; rintro e w' ⟨rfl, hb⟩) | (go_at_call 51; refine (isZone_any _ _).mono ?_; rintro e w' ⟨rfl, rfl⟩))
      go_ret2
      exact ⟨rfl, hb1.trans (hb.mono (by simp))⟩
    | true =>
      cases h3 : inB t 0 10000000 with
      | false =>
        rw [if_neg (by simp)]
        clear hR
        go_enter Tryz.func21, Tryz.ntmps21
        go_wp2_with (first | (go_at_call 18; refine hg.mono ?_; rintro e w' ⟨rfl, hb⟩) | (go_at_call 51; refine (isZone_any _ _).mono ?_; rintro e w' ⟨rfl, rfl⟩) | (go_at_call 48; refine (isIn_any _ _ _ _).mono ?_; rintro e w' ⟨rfl, rfl⟩))
        go_ret2
        exact ⟨rfl, hb1.trans (hb.mono (by simp))⟩
      | true =>
        rw [if_pos (by simp)]
        have hz := inB_iff.1 h2
        have ht := inB_iff.1 h3
        have hsr := Tf.loc_range z t
        have hloc := fun W0 => local_any z t W0 (by omega) (by omega) (by omega) (by omega)
        have hrat := fun W0 hR => rated_any A c x h1 (Tf.loc z t) hsr.1 hsr.2 W0 hR
        have hpr : Tf.price x z t = Tf.rated x (Tf.loc z t) := rfl
        rw [hpr]
        generalize Tf.loc z t = s at *
        generalize Tf.rated x s = pr at *
        have HLOC := Lib.hid hloc
        have HRAT := Lib.hid hrat
        have HR1 := Lib.hid (hR.below hb1)
        clear hloc hrat hpr hR
        go_enter Tryz.func21, Tryz.ntmps21
        go_wp2_with (first | (go_at_call 18; refine hg.mono ?_; rintro e wv ⟨rfl, hb⟩; obtain ⟨hc1, hf1⟩ := bcell hb; have hzz := hb.size; simp only [World.size_alloc] at hzz; have HR2 := Lib.hid (HR1.out.below hb)) | (go_at_call 51; refine (isZone_any _ _).mono ?_; rintro e w' ⟨rfl, rfl⟩) | (go_at_call 48; refine (isIn_any _ _ _ _).mono ?_; rintro e w' ⟨rfl, rfl⟩))
        go_region_with (first | (go_at_call 53; refine (HLOC.out _).mono ?_; rintro e w2 ⟨rfl, rfl⟩) | (go_at_call 52; refine (HRAT.out _ (HR2.out.below (Below.refl _ _).drew)).mono ?_; rintro e w3 ⟨rfl, hb3⟩))
        all_goals
          go_wp2
          go_ret2
          exact ⟨rfl, (hb1.trans (hb.mono (by simp))).trans ((((Below.refl _ wv).drew).trans (hb3.mono (B' := wv.heap.size) (Nat.le_refl _))).mono (by omega))⟩

theorem sumT_any (A : Option Addr) (c : Nat) (x : Tf.Tariff) (hl : x.rates.length ≤ 9223372036854775807) (z a b : Int) (w : World) (hR : RatesAt w A x.rates) :
    Calls Tryz.prog 24 #[.agg #[.slice A x.rates.length c, .int .i64 x.base], .int .i64 z, .agg #[.int .i64 a, .int .i64 b]] w fun e w' =>
      e = .returned (if goodB x z a b = true then .tuple #[.int .i64 (Tf.S (Tf.price x z) a b), .int .i64 0] else .tuple #[.int .i64 0, .int .i64 370]) ∧ Below w.heap.size w w' := by
  have hb1 : Below w.heap.size w ((w.alloc (.cells #[.slice A x.rates.length c, .int .i64 x.base] 26)).alloc (.cells #[.int .i64 a, .int .i64 b] 28)) := ((Below.refl _ w).alloc (Nat.le_refl _) _).alloc (by simp) _
  have hg := isGood_any A c x hl z a b _ (hR.below hb1)
  cases h1 : goodB x z a b with
  | false =>
    rw [h1] at hg
    rw [if_neg (by simp)]
    clear hR
    go_enter Tryz.func24, Tryz.ntmps24
    go_wp2_with (go_at_call 56; refine hg.mono ?_; rintro e w' ⟨rfl, hb⟩)
    go_ret2
    exact ⟨rfl, hb1.trans (hb.mono (by simp; omega))⟩
  | true =>
    rw [h1] at hg
    rw [if_pos rfl]
    have h2 := h1
    simp only [goodB, spellB, zoneB, Bool.and_eq_true, decide_eq_true_eq, inB_iff] at h2
    obtain ⟨hx, ⟨hz1, hz2⟩, ha, hab, hb⟩ := h2
    have hs := fun W hR => sum_any x hx A c z a b (by omega) (by omega) ha (by omega) hab W hR
    have HS := Lib.hid hs
    clear hs
    have HR1 := hR.below hb1
    go_enter Tryz.func24, Tryz.ntmps24
    go_wp2_with (first | (go_at_call 56; refine hg.mono ?_; rintro e w' ⟨rfl, hb2⟩; obtain ⟨hc1, hf1⟩ := bcell hb2; have hz := hb2.size; simp only [World.size_alloc] at hz) | (go_at_call 57; refine (HS.out _ (HR1.below hb2)).mono ?_; rintro e w2 ⟨rfl, hb3⟩))
    go_ret2
    exact ⟨rfl, (hb1.trans (hb2.mono (by simp; omega))).trans (hb3.mono (by omega))⟩

/-- The amount: what the sums up to both ends make, rounded down. -/
def amt (x : Tf.Tariff) (z a b : Int) : Int := Tf.S (Tf.price x z) 0 b / 60 - Tf.S (Tf.price x z) 0 a / 60

set_option maxRecDepth 100000 in
set_option maxHeartbeats 1000000 in
theorem amount_any (A : Option Addr) (c : Nat) (x : Tf.Tariff) (hl : x.rates.length ≤ 9223372036854775807) (z a b : Int) (w : World) (hR : RatesAt w A x.rates) :
    Calls Tryz.prog 26 #[.agg #[.slice A x.rates.length c, .int .i64 x.base], .int .i64 z, .agg #[.int .i64 a, .int .i64 b]] w fun e w' =>
      e = .returned (if goodB x z a b = true then .tuple #[.int .i64 (amt x z a b), .int .i64 0] else .tuple #[.int .i64 0, .int .i64 370]) ∧ Below w.heap.size w w' := by
  have hb1 : Below w.heap.size w ((w.alloc (.cells #[.slice A x.rates.length c, .int .i64 x.base] 26)).alloc (.cells #[.int .i64 a, .int .i64 b] 28)) := ((Below.refl _ w).alloc (Nat.le_refl _) _).alloc (by simp) _
  have hg := isGood_any A c x hl z a b _ (hR.below hb1)
  cases h1 : goodB x z a b with
  | false =>
    rw [h1] at hg
    rw [if_neg (by simp)]
    clear hR
    go_enter Tryz.func26, Tryz.ntmps26
    go_wp2_with (go_at_call 56; refine hg.mono ?_; rintro e w' ⟨rfl, hb⟩)
    go_ret2
    exact ⟨rfl, hb1.trans (hb.mono (by simp; omega))⟩
  | true =>
    rw [h1] at hg
    rw [if_pos rfl]
    have h2 := h1
    simp only [goodB, spellB, zoneB, Bool.and_eq_true, decide_eq_true_eq, inB_iff] at h2
    obtain ⟨hx, ⟨hz1, hz2⟩, ha, hab, hb⟩ := h2
    have hs := fun t (h0 : 0 ≤ t) (h1 : t ≤ 10000000) W hR => sum_any x hx A c z 0 t (by omega) (by omega) (by omega) (by omega) h0 W hR
    have HS := Lib.hid hs
    clear hs
    have b1 := Tf.sum_bounds hx z (a := 0) (b := a) ha
    have b2 := Tf.sum_bounds hx z (a := 0) (b := b) (by omega)
    have hS1 := HS.out a ha (by omega)
    have hS2 := HS.out b (by omega) (by omega)
    unfold amt
    generalize Tf.S (Tf.price x z) 0 a = s1 at *
    generalize Tf.S (Tf.price x z) 0 b = s2 at *
    have H1 := Lib.hid hS1
    have H2 := Lib.hid hS2
    clear hS1 hS2 HS
    have HR1 := hR.below hb1
    have i0 : ∀ w, (Instr.index 86 (.agg #[.int .i64 a, .int .i64 b]) (.int .i64 0)).run Tryz.prog w = .ok (.int .i64 a) w := fun _ => by kernel_rfl
    have i1 : ∀ w, (Instr.index 86 (.agg #[.int .i64 a, .int .i64 b]) (.int .i64 1)).run Tryz.prog w = .ok (.int .i64 b) w := fun _ => by kernel_rfl
    go_enter Tryz.func26, Tryz.ntmps26
    go_wp2_with (first | (go_at_call 56; refine hg.mono ?_; rintro e w' ⟨rfl, hb2⟩; obtain ⟨hc1, hf1⟩ := bcell hb2; have hz := hb2.size; simp only [World.size_alloc] at hz))
    obtain ⟨V, hV⟩ : ∃ V, w'.alloc (.cells #[.int .i64 a, .int .i64 b] 86) = V := ⟨_, rfl⟩
    have ba : Below w'.heap.size w' V := by rw [← hV]; exact (Below.refl _ w').alloc (Nat.le_refl _) _
    have HR2 := (HR1.below hb2).below ba
    have hVs : V.heap.size = w'.heap.size + 1 := by rw [← hV]; simp
    have HVS := Lib.hid hVs
    have hle : w'.heap.size < V.heap.size := by omega
    clear hVs
    have d0 : V.cell? ⟨w.heap.size, 0, none⟩ = some (.slice A x.rates.length c) := by rw [ba.cell (by simp only; omega), hc1 w.heap.size 0 (by simp; omega)]; simp [go_sem]
    have d1 : V.cell? ⟨w.heap.size, 1, none⟩ = some (.int .i64 x.base) := by rw [ba.cell (by simp only; omega), hc1 w.heap.size 1 (by simp; omega)]; simp [go_sem]
    have e0 : V.cell? ⟨w'.heap.size, 0, none⟩ = some (.int .i64 a) := by rw [← hV]; simp [go_sem]
    have e1 : V.cell? ⟨w'.heap.size, 1, none⟩ = some (.int .i64 b) := by rw [← hV]; simp [go_sem]
    have g0 : V.frozen? ⟨w'.heap.size, 0, none⟩ = false := by rw [← hV]; simp [go_sem]
    have g1 : V.frozen? ⟨w'.heap.size, 1, none⟩ = false := by rw [← hV]; simp [go_sem]
    rw [hV]
    clear hV hc1 hf1
    refine wp_loop_rounds 3 ?_
    rw [rounds_succ]
    go_wp2_with fail
    refine (H1.out _ HR2).mono ?_
    rintro e w2 ⟨rfl, hb3⟩
    have d0' := cell_below hb3 d0
    have d1' := cell_below hb3 d1
    have e0' := cell_below hb3 e0
    have e1' := cell_below hb3 e1
    have g0' : w2.frozen? ⟨w'.heap.size, 0, none⟩ = false := (hb3.frozen (by simp only; omega)).trans g0
    have g1' : w2.frozen? ⟨w'.heap.size, 1, none⟩ = false := (hb3.frozen (by simp only; omega)).trans g1
    have hz3 := hb3.size
    have HR3 := HR2.below hb3
    go_wp2_with fail
    obtain ⟨V2, hV2⟩ : ∃ V2, w2.setCell ⟨w'.heap.size, 0, none⟩ (.int .i64 (s1 / 60)) = V2 := ⟨_, rfl⟩
    have bs2 : Below w'.heap.size w2 V2 := by rw [← hV2]; exact (Below.refl _ w2).setCell (p := ⟨w'.heap.size, 0, none⟩) (Nat.le_refl _) _
    have HR4 : RatesAt V2 A x.rates := by
      have := (HR1.below hb2).below (ba.trans ((hb3.mono (by omega)).trans bs2))
      exact this
    have d02 : V2.cell? ⟨w.heap.size, 0, none⟩ = some (.slice A x.rates.length c) := (bs2.cell (p := ⟨w.heap.size, 0, none⟩) (by simp only; omega)).trans d0'
    have d12 : V2.cell? ⟨w.heap.size, 1, none⟩ = some (.int .i64 x.base) := (bs2.cell (p := ⟨w.heap.size, 1, none⟩) (by simp only; omega)).trans d1'
    have e02 : V2.cell? ⟨w'.heap.size, 0, none⟩ = some (.int .i64 (s1 / 60)) := by rw [← hV2]; exact World.cell?_setCell_same' _ _ _ (by rw [e0']; rfl)
    have e12 : V2.cell? ⟨w'.heap.size, 1, none⟩ = some (.int .i64 b) := by rw [← hV2]; simp [go_sem, e1']
    have g12 : V2.frozen? ⟨w'.heap.size, 1, none⟩ = false := by rw [← hV2, World.frozen?_setCell]; exact g1'
    have hVs2 : V2.heap.size = w2.heap.size := by rw [← hV2]; simp
    have hle2 : w'.heap.size < V2.heap.size := by omega
    have HVS2 := Lib.hid hVs2
    have bt2 : Below w'.heap.size w' V2 := ba.trans ((hb3.mono (by omega)).trans bs2)
    rw [hV2]
    clear hV2 hVs2 d0 d1 e0 e1 g0 g1 d0' d1' e0' e1' g0' g1' hz3
    rw [rounds_succ]
    go_wp2_with fail
    refine (H2.out _ HR4).mono ?_
    rintro e w3 ⟨rfl, hb4⟩
    have d0' := cell_below hb4 d02
    have d1' := cell_below hb4 d12
    have e0' := cell_below hb4 e02
    have e1' := cell_below hb4 e12
    have g1' : w3.frozen? ⟨w'.heap.size, 1, none⟩ = false := (hb4.frozen (by simp only; omega)).trans g12
    go_wp2_with fail
    rw [rounds_succ]
    go_wp2
    go_ret2
    refine ⟨?_, ?_⟩
    · have : w3.cell? ⟨w'.heap.size, 0, none⟩ = some (.int .i64 (s1 / 60)) := e0'
      simp
    · have h5 : Below w'.heap.size w' w3 := bt2.trans (hb4.mono (by omega))
      have h6 : Below w.heap.size w w3 := (hb1.trans (hb2.mono (by simp; omega))).trans (h5.mono (by omega))
      exact h6.setCell (p := ⟨w'.heap.size, 1, none⟩) (by simp only; omega) _
end Go.Proofs.YtbenflnpnohcjaaGreatDoor
