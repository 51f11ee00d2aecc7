/- The reference's inputs: pick, Zoned, During. The law TariffMidnights: its walk. -/
import Derived.Test.YtbenflnpnohcjaaGreatDoorS5
import Derived.Deep.RegionWith
import Derived.Deep.QuietTactic
import Derived.BigQuiet
namespace Go.Proofs.YtbenflnpnohcjaaGreatDoor
open Go.RowKit Go.Shelf

theorem pick_any (x n : Int) (h0 : -9223372036854775808 ≤ x) (h1 : x ≤ 9223372036854775807) (hn : 0 < n) (hn2 : n ≤ 1000000000) (w : World) :
    Calls Tryz.prog 46 #[.int .i64 x, .int .i64 n] w fun e w' => (∃ r, e = .returned (.int .i64 r) ∧ 0 ≤ r ∧ r < n) ∧ w = w' := by
  have hnz : (n == 0) = false := by rw [beq_eq_false_iff_ne]; omega
  have hn1 : (n == -1) = false := by rw [beq_eq_false_iff_ne]; omega
  by_cases hx : x < 0
  · obtain ⟨y, hy⟩ : ∃ y, -(x + 1) = y := ⟨_, rfl⟩
    have hy0 : 0 ≤ y ∧ y ≤ 9223372036854775807 := by omega
    obtain ⟨r, hr⟩ : ∃ r, Int.tmod y n = r := ⟨_, rfl⟩
    have hr2 : 0 ≤ r ∧ r < n := by
      rw [← hr, Int.tmod_eq_emod_of_nonneg hy0.1]
      exact ⟨Int.emod_nonneg _ (by omega), Int.emod_lt_of_pos _ hn⟩
    have hyr : 0 ≤ Int.tmod y n ∧ Int.tmod y n < n := by rw [hr]; exact hr2
    have HR := Lib.hid hr2
    clear hyr
    go_enter Tryz.func46, Tryz.ntmps46
    go_wp2
    go_ret
    exact ⟨⟨r, rfl, HR.out.1, HR.out.2⟩, rfl⟩
  · obtain ⟨r, hr⟩ : ∃ r, Int.tmod x n = r := ⟨_, rfl⟩
    have hr2 : 0 ≤ r ∧ r < n := by
      rw [← hr, Int.tmod_eq_emod_of_nonneg (by omega)]
      exact ⟨Int.emod_nonneg _ (by omega), Int.emod_lt_of_pos _ hn⟩
    have HR := Lib.hid hr2
    go_enter Tryz.func46, Tryz.ntmps46
    go_wp2
    go_ret
    exact ⟨⟨r, rfl, HR.out.1, HR.out.2⟩, rfl⟩

theorem tdiv_range {x : Int} (k : Nat) (h0 : -9223372036854775808 ≤ x) (h1 : x ≤ 9223372036854775807) (hk : 2 ≤ k) : -9223372036854775808 ≤ Int.tdiv x (k : Int) ∧ Int.tdiv x (k : Int) ≤ 9223372036854775807 := by
  have h : (Int.tdiv x (k : Int)).natAbs = x.natAbs / k := by rw [Int.natAbs_tdiv, Int.natAbs_natCast]; rfl
  have h2 : x.natAbs / k ≤ x.natAbs / 2 := Nat.div_le_div_left hk (by omega)
  omega

set_option maxRecDepth 100000 in
set_option maxHeartbeats 1000000 in
theorem zoned_any (x : Int) (h0 : -9223372036854775808 ≤ x) (h1 : x ≤ 9223372036854775807) (w : World) :
    Calls Tryz.prog 20 #[.int .i64 x] w fun e w' => (∃ z, e = .returned (.int .i64 z) ∧ -50400 ≤ z ∧ z ≤ 50400) ∧ w = w' := by
  have HP := Lib.hid (fun y n W (h0 : -9223372036854775808 ≤ y) (h1 : y ≤ 9223372036854775807) (hn : 0 < n) (hn2 : n ≤ 1000000000) => pick_any y n h0 h1 hn hn2 W)
  obtain ⟨t1, t2⟩ : -9223372036854775808 ≤ Int.tdiv x 8 ∧ Int.tdiv x 8 ≤ 9223372036854775807 := tdiv_range 8 h0 h1 (by omega)
  obtain ⟨q, hq⟩ : ∃ q, Int.tdiv x 8 = q := ⟨_, rfl⟩
  rw [hq] at t1 t2
  have HQ := Lib.hid (And.intro t1 t2)
  have HX := Lib.hid (And.intro h0 h1)
  have HP7 := Lib.hid (fun W => HP.out x 8 W h0 h1 (by decide) (by decide))
  have HPA := Lib.hid (fun W => HP.out q 100801 W t1 t2 (by decide) (by decide))
  have HPB := Lib.hid (fun W => HP.out x 57 W h0 h1 (by decide) (by decide))
  go_enter Tryz.func20, Tryz.ntmps20
  go_wp2_with (first | (go_at_call 46; (with_reducible refine (HP7.out _).mono ?_); rintro e w1 ⟨⟨r, rfl, hr1, hr2⟩, rfl⟩) | (go_at_call 46; (with_reducible refine (HPA.out _).mono ?_); rintro e w1 ⟨⟨r2, rfl, hr3, hr4⟩, rfl⟩) | (go_at_call 46; (with_reducible refine (HPB.out _).mono ?_); rintro e w1 ⟨⟨r3, rfl, hr5, hr6⟩, rfl⟩))
  all_goals (go_ret; exact ⟨⟨_, rfl, by omega, by omega⟩, rfl⟩)

set_option maxRecDepth 100000 in
set_option maxHeartbeats 1000000 in
theorem during_any (x y : Int) (h0 : -9223372036854775808 ≤ x) (h1 : x ≤ 9223372036854775807) (k0 : -9223372036854775808 ≤ y) (k1 : y ≤ 9223372036854775807) (w : World) :
    Calls Tryz.prog 23 #[.int .i64 x, .int .i64 y] w fun e w' => (∃ a b, e = .returned (.agg #[.int .i64 a, .int .i64 b]) ∧ 0 ≤ a ∧ a ≤ 1800000 ∧ a ≤ b ∧ b ≤ a + 345600) ∧ Below w.heap.size w w' := by
  obtain ⟨t1, t2⟩ : -9223372036854775808 ≤ Int.tdiv x 1000 ∧ Int.tdiv x 1000 ≤ 9223372036854775807 := tdiv_range 1000 h0 h1 (by omega)
  obtain ⟨u1, u2⟩ : -9223372036854775808 ≤ Int.tdiv y 4 ∧ Int.tdiv y 4 ≤ 9223372036854775807 := tdiv_range 4 k0 k1 (by omega)
  obtain ⟨q, hq⟩ : ∃ q, Int.tdiv x 1000 = q := ⟨_, rfl⟩
  obtain ⟨s, hs⟩ : ∃ q, Int.tdiv y 4 = q := ⟨_, rfl⟩
  rw [hq] at t1 t2
  rw [hs] at u1 u2
  have HP1 := Lib.hid (fun W => pick_any x 1000 h0 h1 (by decide) (by decide) W)
  have HP2 := Lib.hid (fun W => pick_any q 3 t1 t2 (by decide) (by decide) W)
  have HP3 := Lib.hid (fun W => pick_any y 4 k0 k1 (by decide) (by decide) W)
  have HP4 := Lib.hid (fun W => pick_any s 345600 u1 u2 (by decide) (by decide) W)
  have HP5 := Lib.hid (fun W => pick_any s 5000 u1 u2 (by decide) (by decide) W)
  go_enter Tryz.func23, Tryz.ntmps23
  go_wp2_with (first | (go_at_call 46; (with_reducible refine (HP1.out _).mono ?_); rintro e w1 ⟨⟨r1, rfl, hr1, hr2⟩, rfl⟩) | (go_at_call 46; (with_reducible refine (HP2.out _).mono ?_); rintro e w1 ⟨⟨r2, rfl, hr3, hr4⟩, rfl⟩) | (go_at_call 46; (with_reducible refine (HP3.out _).mono ?_); rintro e w1 ⟨⟨r3, rfl, hr5, hr6⟩, rfl⟩))
  all_goals obtain ⟨a, ha⟩ : ∃ a, max (1800 * r1 + r2 - 1) 0 = a := ⟨_, rfl⟩
  all_goals have ha2 : 0 ≤ a ∧ a ≤ 1799000 := by omega
  all_goals rw [ha]
  all_goals have hws : IntKind.i64.wrap s = s := IntWalk.i64_in _ ⟨u1, u2⟩
  · go_region_with (go_at_call 46; (with_reducible refine (HP4.out _).mono ?_); rintro e w1 ⟨⟨r4, rfl, hr7, hr8⟩, rfl⟩; have hwa : IntKind.i64.wrap (a + r4) = a + r4 := IntWalk.i64_in _ (by omega))
    all_goals go_wp2
    all_goals have hcell : ((w.alloc (.cells #[.int .i64 a, .int .i64 (a + r4)] 28)).alloc (.cells #[.int .i64 a, .int .i64 (a + r4)] 28)).drew.heap[w.heap.size]? = some (.cells #[.int .i64 a, .int .i64 (a + r4)] 28 (0, 0)) := (heap_past' _ _ (by simp)).trans (heap_at' _ _ rfl)
    all_goals exact bodyPost_ret (results_cell_row rfl _ _ _ _ _ _ _ rfl hcell Tryz.underlying28 rfl (by kernel_rfl)) rfl ⟨⟨a, a + r4, rfl, by omega, by omega, by omega, by omega⟩, ((below_al2 _ _ _).drew)⟩
  · go_region_with (go_at_call 46; (with_reducible refine (HP5.out _).mono ?_); rintro e w1 ⟨⟨r4, rfl, hr7, hr8⟩, rfl⟩; have hwa : IntKind.i64.wrap (a + r4) = a + r4 := IntWalk.i64_in _ (by omega))
    all_goals go_wp2
    all_goals have hcell : ((w.alloc (.cells #[.int .i64 a, .int .i64 (a + r4)] 28)).alloc (.cells #[.int .i64 a, .int .i64 (a + r4)] 28)).drew.heap[w.heap.size]? = some (.cells #[.int .i64 a, .int .i64 (a + r4)] 28 (0, 0)) := (heap_past' _ _ (by simp)).trans (heap_at' _ _ rfl)
    all_goals exact bodyPost_ret (results_cell_row rfl _ _ _ _ _ _ _ rfl hcell Tryz.underlying28 rfl (by kernel_rfl)) rfl ⟨⟨a, a + r4, rfl, by omega, by omega, by omega, by omega⟩, ((below_al2 _ _ _).drew)⟩
end Go.Proofs.YtbenflnpnohcjaaGreatDoor

namespace Go.Proofs.YtbenflnpnohcjaaGreatDoor
open Go.RowKit Go.Shelf

namespace Tf
theorem mids_fact (z a b : Int) (hab : a ≤ b) :
    (∀ (i : Nat) (x : Int), (midnights z a b)[i]? = some x → a ≤ x ∧ x < b ∧ (x + z + 604800) % 86400 = 0 ∧ x = firstMid z a + 86400 * i) ∧ (((midnights z a b).length : Int) = (b - a) / 86400 ∨ ((midnights z a b).length : Int) = (b - a) / 86400 + 1) := by
  obtain ⟨f1, f2, f3⟩ := firstMid_spec z a
  have hl : ((midnights z a b).length : Int) = if firstMid z a < b then (b - firstMid z a + 86399) / 86400 else 0 := mids_length b _ _ (by omega)
  refine ⟨fun i x hi => ?_, ?_⟩
  · obtain ⟨h1, h2⟩ := List.getElem?_eq_some_iff.1 hi
    obtain ⟨e1, e2⟩ := mids_get b _ _ i h1
    have e3 : x = firstMid z a + 86400 * i := h2.symm.trans e1
    clear e1 h2 hi hl
    generalize firstMid z a = t at *
    omega
  · rw [hl]
    generalize firstMid z a = t at *
    split <;> omega
theorem mids_one (z a : Int) : (midnights z a (a + 86400)).length = 1 := by
  obtain ⟨f1, f2, f3⟩ := firstMid_spec z a
  have hl : ((midnights z a (a + 86400)).length : Int) = if firstMid z a < a + 86400 then (a + 86400 - firstMid z a + 86399) / 86400 else 0 := mids_length (a + 86400) _ _ (by omega)
  rw [if_pos f2] at hl
  omega
end Tf

theorem mids_walk (z a b : Int) (w : World) (hz : -50400 ≤ z ∧ z ≤ 50400) (h0 : 0 ≤ a) (hab : a ≤ b) (h1 : b ≤ 10000000) :
    Calls Tryz.prog 32 #[.int .i64 z, .agg #[.int .i64 a, .int .i64 b]] w fun e w' => (∃ A c, e = .returned (.tuple #[.slice A (Tf.midnights z a b).length c, .int .i64 0]) ∧ SlAt w' A (Tf.midnights z a b)) ∧ Below w.heap.size w w' := by
  have hok : (zoneB z && spellB a b) = true := by
    simp only [zoneB, spellB, Bool.and_eq_true, decide_eq_true_eq, inB_iff]
    omega
  refine (midnights_any z a b w).mono ?_
  rintro e w' ⟨⟨v, rfl, hv⟩, hb⟩
  rw [if_pos hok] at hv
  obtain ⟨A, c, rfl, hs⟩ := slAt_own hv
  exact ⟨⟨A, c, by rw [if_pos hok], hs⟩, hb⟩

set_option maxRecDepth 100000 in
set_option maxHeartbeats 1000000 in
theorem midnightsLaw_any (z0 x y : Int) (w : World) (ht : Tab w) (h0 : -9223372036854775808 ≤ z0 ∧ z0 ≤ 9223372036854775807) (h1 : -9223372036854775808 ≤ x ∧ x ≤ 9223372036854775807) (h2 : -9223372036854775808 ≤ y ∧ y ≤ 9223372036854775807) :
    Calls Tryz.prog 12 #[.int .i64 z0, .int .i64 x, .int .i64 y] w fun e w' => e = .returned (.bool true) ∧ Below w.heap.size w w' := by
  have HS := Lib.hid (sane_any w ht)
  have HZ := Lib.hid (fun W => zoned_any z0 h0.1 h0.2 W)
  have HD := Lib.hid (fun W => during_any x y h1.1 h1.2 h2.1 h2.2 W)
  have HM := Lib.hid (fun z a b W (hz : -50400 ≤ z ∧ z ≤ 50400) (h0 : 0 ≤ a) (hab : a ≤ b) (h1 : b ≤ 10000000) => mids_walk z a b W hz h0 hab h1)
  clear ht h0 h1 h2
  go_enter Tryz.func12, Tryz.ntmps12
  go_wp2_with (first
    | (go_at_call 14; (with_reducible refine HS.out.mono ?_); rintro e w1 ⟨rfl, hb1⟩)
    | (go_at_call 20; (with_reducible refine (HZ.out _).mono ?_); rintro e wz ⟨⟨z, rfl, hz1, hz2⟩, rfl⟩)
    | (go_at_call 23; (with_reducible refine (HD.out _).mono ?_); rintro e w2 ⟨⟨a, b, rfl, ha0, ha1, hab, hb0⟩, hb2⟩)
    | (go_at_call 32; (with_reducible refine (HM.out z a b _ ⟨hz1, hz2⟩ ha0 hab (by omega)).mono ?_); rintro e w3 ⟨⟨A1, c1, rfl, hs1⟩, hb3⟩; obtain ⟨d0, d1, hsz3, hb3'⟩ := new_two _ _ _ _ _ hb3)
    | (go_at_call 32; (with_reducible refine (HM.out z a (a + 86400) _ ⟨hz1, hz2⟩ ha0 (by omega) (by omega)).mono ?_); rintro e w4 ⟨⟨A2, c2, rfl, hs2⟩, hb4⟩; rw [Tf.mids_one]; clear hs2))
  have HF := Lib.hid (Tf.mids_fact z a b hab)
  generalize Tf.midnights z a b = l at *
  generalize Tf.firstMid z a = t0 at *
  have hb5 : Below w.heap.size w w4 := ((hb1.trans (hb2.mono hb1.size)).trans (hb3'.mono (Nat.le_trans hb1.size hb2.size))).trans (hb4.mono (Nat.le_trans (Nat.le_trans hb1.size hb2.size) hb3'.size))
  have d0' := cell_below hb4 d0
  have d1' := cell_below hb4 d1
  have hs4 : SlAt w4 A1 l := hs1.below hb4
  generalize w2.heap.size = B at *
  have HB := Lib.hid (And.intro hs4 (And.intro d0' (And.intro d1' hb5)))
  have hln : (l.length : Int) ≤ 10 := by have := HF.out.2; omega
  clear d0 d1 d0' d1' hb1 hb2 hb3 hb3' hb4 hs1 hs4 hb5 hsz3 HS HZ HD HM
  go_loopw [13] (fun si wr => ∃ k : Nat, si = .int .i64 (k : Int) ∧ k ≤ l.length ∧ Aside (Below w4.heap.size w4 wr)) (fun si _ => l.length - (intOf si).toNat)
  case atStart => exact ⟨0, rfl, Nat.zero_le _, Below.refl _ _⟩
  case round =>
    obtain ⟨k, rfl, hk, has⟩ := hrel
    have e0 := cell_below has.out HB.out.2.1
    have e1 := cell_below has.out HB.out.2.2.1
    by_cases hkl : k < l.length
    · obtain ⟨g, rfl, hg⟩ : ∃ b, A1 = some ⟨b, 0, none⟩ ∧ IntsAt w4 b l := by
        rcases HB.out.1 with h' | h'
        · rw [h'] at hkl; simp at hkl
        · exact h'
      have e2 := cell_below has.out (hg.2 k hkl)
      have x1 : l[k]? = some (l.getD k 0) := by rw [List.getD_eq_getElem?_getD, List.getElem?_eq_getElem hkl]; rfl
      obtain ⟨g1, g2, g3, g4⟩ := HF.out.1 k _ x1
      have hkz : (k : Int) < (l.length : Int) := by omega
      by_cases hk0 : k = 0
      · subst hk0
        generalize l.getD 0 0 = xx at *
        have q1 : decide (xx < a) = false := decide_eq_false (by omega)
        have q2 : decide (b ≤ xx) = false := decide_eq_false (by omega)
        have q3 : IntKind.i64.wrap (xx + z) = xx + z := IntWalk.i64_in _ (by omega)
        have q4 : IntKind.i64.wrap (xx + z + 604800) = xx + z + 604800 := IntWalk.i64_in _ (by omega)
        have q5 : Int.tmod (xx + z + 604800) 86400 = 0 := by rw [Int.tmod_eq_emod_of_nonneg (by omega)]; exact g3
        clear hg x1 g1 g2 g3 g4 HF
        go_wp2
        go_quiet (fail)
        go_wp2
        go_roundw
        case rel => exact ⟨1, by go_num, by omega, has.out.trans ((below_drewN'' _ _).mono has.out.size)⟩
        case measure => simp [intOf] <;> omega
      · obtain ⟨m, hm⟩ : ∃ m, k = m + 1 := ⟨k - 1, by omega⟩
        have e3 := cell_below has.out (hg.2 m (by omega))
        have x2 : l[m]? = some (l.getD m 0) := by rw [List.getD_eq_getElem?_getD, List.getElem?_eq_getElem (by omega)]; rfl
        obtain ⟨j1, j2, j3, j4⟩ := HF.out.1 m _ x2
        generalize l.getD k 0 = xx at *
        generalize l.getD m 0 = yy at *
        have q1 : decide (xx < a) = false := decide_eq_false (by omega)
        have q2 : decide (b ≤ xx) = false := decide_eq_false (by omega)
        have q3 : IntKind.i64.wrap (xx + z) = xx + z := IntWalk.i64_in _ (by omega)
        have q4 : IntKind.i64.wrap (xx + z + 604800) = xx + z + 604800 := IntWalk.i64_in _ (by omega)
        have q5 : Int.tmod (xx + z + 604800) 86400 = 0 := by rw [Int.tmod_eq_emod_of_nonneg (by omega)]; exact g3
        have q6 : (0 : Int) < (k : Int) := by omega
        have q6' : 0 < k := by omega
        have q7 : IntKind.i64.wrap ((k : Int) - 1) = (m : Int) := by rw [IntWalk.i64_in _ (by omega)]; omega
        have q8 : xx - yy = 86400 := by rw [hm] at g4; push_cast at g4; omega
        have q9 : IntKind.i64.wrap (xx - yy) = 86400 := by rw [q8]; rfl
        have q10 : (m : Int) < (l.length : Int) := by omega
        clear hg x1 g1 g2 g3 g4 HF x2 j1 j2 j3 j4 q8 hm hk0
        go_wp2
        go_quiet (fail)
        go_wp2
        go_roundw
        case rel => exact ⟨k + 1, by go_num, by omega, has.out.trans ((below_drewN'' _ _).mono has.out.size)⟩
        case measure => simp [intOf] <;> omega
    · obtain rfl : k = l.length := by omega
      have hkz : ¬ (l.length : Int) < (l.length : Int) := by omega
      have p1 : IntKind.i64.wrap (b - a) = b - a := IntWalk.i64_in _ (by omega)
      obtain ⟨q, hq⟩ : ∃ q, Int.tdiv (b - a) 86400 = q := ⟨_, rfl⟩
      have hq2 : q = (b - a) / 86400 := by rw [← hq, Int.tdiv_eq_ediv_of_nonneg (by omega)]
      have hq3 : 0 ≤ q ∧ q ≤ 1000 := by omega
      have hf := HF.out.2
      rw [← hq2] at hf
      have hfin : Below w.heap.size w wr := HB.out.2.2.2.trans (has.out.mono HB.out.2.2.2.size)
      have HFIN := Lib.hid hfin
      clear hfin HF
      rcases hf with hf | hf
      · have hb' : ((l.length : Int) == q) = true := by simp [hf]
        go_wp2
        go_ret
        exact ⟨rfl, HFIN.out⟩
      · have hb' : ((l.length : Int) == q) = false := by rw [beq_eq_false_iff_ne]; omega
        have hb2' : ((l.length : Int) == q + 1) = true := by simp [hf]
        go_wp2
        go_ret
        exact ⟨rfl, HFIN.out⟩
end Go.Proofs.YtbenflnpnohcjaaGreatDoor
