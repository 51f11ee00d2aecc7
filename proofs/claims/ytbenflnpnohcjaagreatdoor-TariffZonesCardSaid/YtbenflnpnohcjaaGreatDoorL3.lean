/- The laws TariffRounds, TariffZones, TariffWeeks: their walks. -/
import Derived.Test.YtbenflnpnohcjaaGreatDoorLCom
namespace Go.Proofs.YtbenflnpnohcjaaGreatDoor
open Go.RowKit Go.Shelf

set_option maxRecDepth 100000 in
set_option maxHeartbeats 1000000 in
theorem roundsLaw_any (A : Option Addr) (n c : Nat) (y : Nat → Nat → Int) (bs z0 x0 y0 : Int) (w : World) (ht : Tab w) (hX : XsAt w A n y) (hn : n ≤ 9223372036854775807) (hb : rng bs) (h0 : rng z0) (h1 : rng x0) (h2 : rng y0) :
    Calls Tryz.prog 6 #[.int .i64 bs, .slice A n c, .int .i64 z0, .int .i64 x0, .int .i64 y0] w fun e w' => e = .returned (.bool true) ∧ Below w.heap.size w w' := by
  have HS := Lib.hid (sane_any w ht)
  have HM := Lib.hid (fun W (h : Below w.heap.size w W) => made_ok (W := W) A n c y bs hb (hX.below h) hn)
  have HZ := Lib.hid (fun W => zoned_any z0 h0.1 h0.2 W)
  have HD := Lib.hid (fun W => during_any x0 y0 h1.1 h1.2 h2.1 h2.2 W)
  clear ht hX hb h0 h1 h2 hn
  go_enter Tryz.func6, Tryz.ntmps6
  go_wp2_with (first
    | (go_at_call 14; (with_reducible refine HS.out.mono ?_); rintro e w1 ⟨rfl, hb1⟩)
    | (go_at_call 15; (with_reducible refine (HM.out _ hb1).mono ?_); rintro e w2 ⟨⟨x, A', c', rfl, hT, -, -, -⟩, hb2⟩; have C2 := Ctx.new (c := c') hb1 hb2 hT)
    | (go_at_call 20; (with_reducible refine (HZ.out _).mono ?_); rintro e wz ⟨⟨z, rfl, hz1, hz2⟩, rfl⟩)
    | (go_at_call 23; (with_reducible refine (HD.out _).mono ?_); rintro e w3 ⟨⟨a, b, rfl, ha0, ha1, hab, hb0⟩, hb3⟩; have C3 := (C2.go hb3).go (below_al1 w3 (.cells #[.int .i64 a, .int .i64 b] 28)); have p1 := C3.x0; have p2 := C3.x1)
    | (go_at_call 24; (with_reducible refine (sum_ok C3.tar c' z a b ⟨hz1, hz2⟩ ha0 hab (by omega)).mono ?_); rintro e w4 ⟨rfl, hb4⟩; have C4 := C3.go hb4; have p3 := C4.x0; have p4 := C4.x1; obtain ⟨d0, d1, -, -⟩ := new_two _ _ _ _ _ hb4)
    | (go_at_call 26; (with_reducible refine (amount_ok C4.tar c' z a b ⟨hz1, hz2⟩ ha0 hab (by omega)).mono ?_); rintro e w5 ⟨rfl, hb5⟩; have C5 := C4.go hb5; obtain ⟨f1, f2, f3, f4, f5, f6⟩ := rounds_fact C5.tar.ok z ha0 hab hb0; generalize Tf.S (Tf.price x z) a b = sm at *; generalize amt x z a b = am at *))
  all_goals (go_ret; exact ⟨rfl, C5.below⟩)

set_option maxRecDepth 100000 in
set_option maxHeartbeats 1000000 in
theorem zonesLaw_any (A : Option Addr) (n c : Nat) (y : Nat → Nat → Int) (bs z0 x0 y0 : Int) (w : World) (ht : Tab w) (hX : XsAt w A n y) (hn : n ≤ 9223372036854775807) (hb : rng bs) (h0 : rng z0) (h1 : rng x0) (h2 : rng y0) :
    Calls Tryz.prog 8 #[.int .i64 bs, .slice A n c, .int .i64 z0, .int .i64 x0, .int .i64 y0] w fun e w' => e = .returned (.bool true) ∧ Below w.heap.size w w' := by
  have HS := Lib.hid (sane_any w ht)
  have HM := Lib.hid (fun W (h : Below w.heap.size w W) => made_ok (W := W) A n c y bs hb (hX.below h) hn)
  have HZ := Lib.hid (fun W => zoned_any z0 h0.1 h0.2 W)
  have HD := Lib.hid (fun W => during_any x0 0 h1.1 h1.2 (by decide) (by decide) W)
  have HP := Lib.hid h2
  have hfl := Tryz.fld28
  clear ht hX hb h0 h1 h2 hn
  go_enter Tryz.func8, Tryz.ntmps8
  go_wp2_with (first
    | (go_at_call 14; (with_reducible refine HS.out.mono ?_); rintro e w1 ⟨rfl, hb1⟩)
    | (go_at_call 15; (with_reducible refine (HM.out _ hb1).mono ?_); rintro e w2 ⟨⟨x, A', c', rfl, hT, -, -, -⟩, hb2⟩; have C2 := Ctx.new (c := c') hb1 hb2 hT)
    | (go_at_call 20; (with_reducible refine (HZ.out _).mono ?_); rintro e wz ⟨⟨z, rfl, hz1, hz2⟩, rfl⟩)
    | (go_at_call 23; (with_reducible refine (HD.out _).mono ?_); rintro e w3 ⟨⟨a, b, rfl, ha0, ha1, hab, hb0⟩, hb3⟩; have C3 := C2.go hb3; have p1 := C3.x0; have p2 := C3.x1)
    | (go_at_call 36; (with_reducible refine (lpick_any y0 _ HP.out (by omega) (by omega) _).mono ?_); rintro e wy ⟨⟨d, rfl, hd1, hd2⟩, rfl⟩)
    | fail)
  refine (price_ok C3.tar c' z a ⟨hz1, hz2⟩ ha0 (by omega)).mono ?_
  rintro e w4 ⟨rfl, hb4⟩
  have C4 := C3.go hb4
  have p3 := C4.x0
  have p4 := C4.x1
  go_wp2_with fail
  refine (price_ok C4.tar c' (z - d) (a + d) ⟨by omega, by omega⟩ (by omega) (by omega)).mono ?_
  rintro e w5 ⟨rfl, hb5⟩
  have C5 := C4.go hb5
  have p5 := C5.x0
  have p6 := C5.x1
  go_wp2_with fail
  refine (sum_ok C5.tar c' z a (a + 3600) ⟨hz1, hz2⟩ ha0 (by omega) (by omega)).mono ?_
  rintro e w6 ⟨rfl, hb6⟩
  have C6 := C5.go hb6
  have p7 := C6.x0
  have p8 := C6.x1
  go_wp2_with fail
  refine (sum_ok C6.tar c' (z - d) (a + d) (a + d + 3600) ⟨by omega, by omega⟩ (by omega) (by omega) (by omega)).mono ?_
  rintro e w7 ⟨rfl, hb7⟩
  have C7 := C6.go hb7
  rw [Tf.price_zone x z a d, show a + d + 3600 = a + 3600 + d by omega, Tf.S_zone x z a (a + 3600) d]
  generalize Tf.S (Tf.price x z) a (a + 3600) = sm at *
  generalize Tf.price x z a = pr at *
  go_wp2
  go_ret
  exact ⟨rfl, C7.below⟩

set_option maxRecDepth 100000 in
set_option maxHeartbeats 1000000 in
theorem weeksLaw_any (A : Option Addr) (n c : Nat) (y : Nat → Nat → Int) (bs z0 x0 y0 t0 k0 : Int) (w : World) (ht : Tab w) (hX : XsAt w A n y) (hn : n ≤ 9223372036854775807) (hb : rng bs) (h0 : rng z0) (h1 : rng x0) (h2 : rng y0) (h3 : rng t0) (h4 : rng k0) :
    Calls Tryz.prog 9 #[.int .i64 bs, .slice A n c, .int .i64 z0, .int .i64 x0, .int .i64 y0, .int .i64 t0, .int .i64 k0] w fun e w' => e = .returned (.bool true) ∧ Below w.heap.size w w' := by
  have HS := Lib.hid (sane_any w ht)
  have HM := Lib.hid (fun W (h : Below w.heap.size w W) => made_ok (W := W) A n c y bs hb (hX.below h) hn)
  have HZ := Lib.hid (fun W => zoned_any z0 h0.1 h0.2 W)
  have HD := Lib.hid (fun W => during_any x0 y0 h1.1 h1.2 h2.1 h2.2 W)
  have HT := Lib.hid (fun W => during_any t0 0 h3.1 h3.2 (by decide) (by decide) W)
  have HP := Lib.hid (fun W => lpick_any k0 8 h4 (by decide) (by decide) W)
  have hfl := Tryz.fld28
  clear ht hX hb h0 h1 h2 h3 h4 hn
  go_enter Tryz.func9, Tryz.ntmps9
  go_wp2_with (first
    | (go_at_call 14; (with_reducible refine HS.out.mono ?_); rintro e w1 ⟨rfl, hb1⟩)
    | (go_at_call 15; (with_reducible refine (HM.out _ hb1).mono ?_); rintro e w2 ⟨⟨x, A', c', rfl, hT, -, -, -⟩, hb2⟩; have C2 := Ctx.new (c := c') hb1 hb2 hT)
    | (go_at_call 20; (with_reducible refine (HZ.out _).mono ?_); rintro e wz ⟨⟨z, rfl, hz1, hz2⟩, rfl⟩)
    | (go_at_call 23; (with_reducible refine (HD.out _).mono ?_); rintro e w3 ⟨⟨a, b, rfl, ha0, ha1, hab, hb0⟩, hb3⟩; have C3 := (C2.go hb3).go (below_al1 w3 (.cells #[.int .i64 a, .int .i64 b] 28)))
    | (go_at_call 36; (with_reducible refine (HP.out _).mono ?_); rintro e wy ⟨⟨d, rfl, hd1, hd2⟩, rfl⟩)
    | fail)
  refine (HT.out _).mono ?_
  rintro e w4 ⟨⟨t, b', rfl, ht0, ht1, -, -⟩, hb4⟩
  obtain ⟨s0, s1, -, -⟩ := new_two _ _ _ _ _ hb4
  have C4 := C3.go hb4
  have p1 := C4.x0
  have p2 := C4.x1
  go_wp2_with fail
  obtain ⟨k, rfl⟩ : ∃ k : Nat, d = k := ⟨d.toNat, by omega⟩
  refine (sum_ok C4.tar c' z a b ⟨hz1, hz2⟩ ha0 hab (by omega)).mono ?_
  rintro e w5 ⟨rfl, hb5⟩
  have C5 := C4.go hb5
  have p3 := C5.x0
  have p4 := C5.x1
  have s2 := cell_below hb5 s0
  have s3 := cell_below hb5 s1
  go_wp2_with fail
  refine (sum_ok C5.tar c' z (a + 604800 * (1 + (k : Int))) (b + 604800 * (1 + (k : Int))) ⟨hz1, hz2⟩ (by omega) (by omega) (by omega)).mono ?_
  rintro e w6 ⟨rfl, hb6⟩
  have C6 := C5.go hb6
  have p5 := C6.x0
  have p6 := C6.x1
  have s4 := cell_below hb6 s2
  have s5 := cell_below hb6 s3
  go_wp2_with fail
  refine (sum_ok C6.tar c' z a (a + 604800) ⟨hz1, hz2⟩ (by omega) (by omega) (by omega)).mono ?_
  rintro e w7 ⟨rfl, hb7⟩
  have C7 := C6.go hb7
  have p7 := C7.x0
  have p8 := C7.x1
  go_wp2_with fail
  refine (sum_ok C7.tar c' z t (t + 604800) ⟨hz1, hz2⟩ (by omega) (by omega) (by omega)).mono ?_
  rintro e w8 ⟨rfl, hb8⟩
  have C8 := C7.go hb8
  have e1 := Tf.S_later x z a b (1 + k)
  rw [show ((1 + k : Nat) : Int) = 1 + (k : Int) by omega] at e1
  rw [e1, Tf.S_week_any x z t a]
  clear e1
  generalize Tf.S (Tf.price x z) a b = sm at *
  generalize Tf.S (Tf.price x z) a (a + 604800) = pr at *
  go_wp2
  go_ret
  exact ⟨rfl, C8.below⟩
end Go.Proofs.YtbenflnpnohcjaaGreatDoor
