/- The law TariffCheapest: its walk. -/
import Derived.Test.YtbenflnpnohcjaaGreatDoorL4
namespace Go.Proofs.YtbenflnpnohcjaaGreatDoor
open Go.RowKit Go.Shelf

set_option maxRecDepth 100000 in
set_option maxHeartbeats 2000000 in
theorem cheapestLaw_any (A : Option Addr) (n c : Nat) (y : Nat → Nat → Int) (bs z0 x0 y0 l0 t0 m0 : Int) (w : World) (ht : Tab w) (hX : XsAt w A n y) (hn : n ≤ 9223372036854775807) (hb : rng bs) (h0 : rng z0) (h1 : rng x0) (h2 : rng y0) (h3 : rng l0) (h4 : rng t0) (h5 : rng m0) :
    Calls Tryz.prog 11 #[.int .i64 bs, .slice A n c, .int .i64 z0, .int .i64 x0, .int .i64 y0, .int .i64 l0, .int .i64 t0, .int .i64 m0] w fun e w' => e = .returned (.bool true) ∧ Below w.heap.size w w' := by
  have HS := Lib.hid (sane_any w ht)
  have HM := Lib.hid (fun W (h : Below w.heap.size w W) => made_ok (W := W) A n c y bs hb (hX.below h) hn)
  have HZ := Lib.hid (fun W => zoned_any z0 h0.1 h0.2 W)
  have HD := Lib.hid (fun W => during_any x0 y0 h1.1 h1.2 h2.1 h2.2 W)
  have HR := Lib.hid (And.intro h3 (And.intro h4 h5))
  clear ht hX hb h0 h1 h2 h3 h4 h5 hn
  go_enter Tryz.func11, Tryz.ntmps11
  go_wp2_with (first
    | (go_at_call 14; (with_reducible refine HS.out.mono ?_); rintro e w1 ⟨rfl, hb1⟩)
    | (go_at_call 15; (with_reducible refine (HM.out _ hb1).mono ?_); rintro e w2 ⟨⟨x, A', c', rfl, hT, -, -, -⟩, hb2⟩; have C2 := Ctx.new (c := c') hb1 hb2 hT)
    | (go_at_call 20; (with_reducible refine (HZ.out _).mono ?_); rintro e wz ⟨⟨z, rfl, hz1, hz2⟩, rfl⟩)
    | (go_at_call 23; (with_reducible refine (HD.out _).mono ?_); rintro e w3 ⟨⟨a, b, rfl, ha0, ha1, hab, hb0⟩, hb3⟩))
  obtain ⟨Wx, hWx⟩ : ∃ W, w2.alloc (.cells #[.slice A' x.rates.length c', .int .i64 x.base] 26) = W := ⟨_, rfl⟩
  rw [hWx] at C2 hb3
  have hsx : Wx.heap.size = w2.heap.size + 1 := by rw [← hWx]; simp
  have HWX := Lib.hid hWx
  clear hWx
  obtain ⟨b1, hb1'⟩ : ∃ v, max (min b (a + 50000)) (a + 1) = v := ⟨_, rfl⟩
  have hb2' : a + 1 ≤ b1 ∧ b1 ≤ a + 50000 := by omega
  rw [hb1']
  have HB1 := Lib.hid hb1'
  have HSX := Lib.hid hsx
  clear hb1' hsx
  refine (lpick_any l0 (b1 - a) HR.out.1 (by omega) (by omega) _).mono ?_
  rintro e wy ⟨⟨r, rfl, hr1, hr2⟩, rfl⟩
  have z1 : IntKind.i64.wrap (1 + r) = 1 + r := IntWalk.i64_in _ (by omega)
  obtain ⟨nn, hnn⟩ : ∃ v, 1 + r = v := ⟨_, rfl⟩
  have hn1 : 1 ≤ nn ∧ nn ≤ b1 - a := by omega
  have HNN := Lib.hid hnn
  clear z1 hnn
  have C3 := (C2.go hb3).go (below_al1 w3 (.cells #[.int .i64 a, .int .i64 b1] 28))
  have q0 := C3.x0
  have q1 := C3.x1
  go_wp2_with fail
  rw [HNN.out]
  clear hr1 hr2
  refine (cheapest_ok C3.tar c' z a b1 nn ⟨hz1, hz2⟩ ha0 (by omega) (by omega) hn1.1 hn1.2).mono ?_
  rintro e w4 ⟨⟨t1, rfl, hF⟩, hb4⟩
  have C4 := C3.go hb4
  have q2 := C4.x0
  have q3 := C4.x1
  obtain ⟨s0, s1, hsz4, hb4'⟩ := new_two _ _ _ _ _ hb4
  have ht1 := hF.1
  have ht2 := hF.2.1
  have g1 : t1 + nn ≤ b1 := by omega
  have HF := Lib.hid hF
  clear hF
  obtain ⟨ls, hls⟩ : ∃ v, Tf.win (Tf.price x z) nn t1 = v := ⟨_, rfl⟩
  rw [hls]
  have HLS := Lib.hid hls
  clear hls
  have d1 : decide (t1 < a) = false := decide_eq_false (by omega)
  have d2 : decide (b1 < t1 + nn) = false := decide_eq_false (by omega)
  go_wp2_with fail
  refine (sum_ok C4.tar c' z t1 (t1 + nn) ⟨hz1, hz2⟩ (by omega) (by omega) (by omega)).mono ?_
  rintro e w5 ⟨rfl, hb5⟩
  rw [show Tf.S (Tf.price x z) t1 (t1 + nn) = ls from HLS.out]
  have C5 := C4.go hb5
  have s2 := cell_below hb5 s0
  have s3 := cell_below hb5 s1
  have y1 : IntKind.i64.wrap (b1 - a) = b1 - a := IntWalk.i64_in _ (by omega)
  have y2 : IntKind.i64.wrap (b1 - a - nn) = b1 - a - nn := IntWalk.i64_in _ (by omega)
  have y3 : IntKind.i64.wrap (b1 - a - nn + 1) = b1 - a - nn + 1 := IntWalk.i64_in _ (by omega)
  have HPK := Lib.hid (fun W => lpick_eq t0 (b1 - a - nn + 1) HR.out.2.1 (by omega) (by omega) W)
  have r0 := Tf.pk_range t0 (n := b1 - a - nn + 1) (by omega)
  obtain ⟨r2, hr2⟩ : ∃ r, Tf.pk t0 (b1 - a - nn + 1) = r := ⟨_, rfl⟩
  rw [hr2] at HPK r0
  clear hr2
  have y4 : IntKind.i64.wrap (a + r2) = a + r2 := IntWalk.i64_in _ (by omega)
  go_wp2
  go_quiet ((go_at_call 36; exact Calls.quiet_of_same (HPK.out _)))
  obtain ⟨t2, ht3⟩ : ∃ v, a + r2 = v := ⟨_, rfl⟩
  have ht4 : a ≤ t2 ∧ t2 + nn ≤ b1 := by omega
  have HT2 := Lib.hid ht3
  clear y1 y2 y3 y4 ht3
  have C6 := C5.go (below_drewN'' w5 nq)
  have q4 := C6.x0
  have q5 := C6.x1
  go_wp2_with fail
  rw [HT2.out]
  clear r0
  refine (sum_ok C6.tar c' z t2 (t2 + nn) ⟨hz1, hz2⟩ (by omega) (by omega) (by omega)).mono ?_
  rintro e w7 ⟨rfl, hb7⟩
  obtain ⟨e1, he1⟩ : ∃ v, Tf.S (Tf.price x z) t2 (t2 + nn) = v := ⟨_, rfl⟩
  rw [he1]
  have HE1 := Lib.hid he1
  clear he1
  have k4 : w4.heap[w3.heap.size]? = some (.cells #[.int .i64 a, .int .i64 b1] 28 (0, 0)) := (hb4.block _ (by simp)).trans (heap_at' _ _ rfl)
  have k5 : w5.heap[w3.heap.size]? = some (.cells #[.int .i64 a, .int .i64 b1] 28 (0, 0)) := (hb5.block _ hsz4).trans k4
  have k7 : w7.heap[w3.heap.size]? = some (.cells #[.int .i64 a, .int .i64 b1] 28 (0, 0)) := (hb7.block _ (Nat.lt_of_lt_of_le hsz4 hb5.size)).trans k5
  have x5 : Below Wx.heap.size Wx w5 := bt (bt (bt hb3 (below_al1 w3 (.cells #[.int .i64 a, .int .i64 b1] 28))) hb4) hb5
  have x7 : Below Wx.heap.size Wx w7 := bt (bt x5 (below_drewN'' w5 nq)) hb7
  have x3 := hb3.size
  have s4 : w7.cell? ⟨w3.heap.size, 0, none⟩ = some (.int .i64 a) := by simp [World.cell?, k7]
  have s5 : w7.cell? ⟨w3.heap.size, 1, none⟩ = some (.int .i64 b1) := by simp [World.cell?, k7]
  have fz : w7.frozen? ⟨w3.heap.size, 1, none⟩ = false := by simp [World.frozen?, k7]
  have HPM := Lib.hid (fun W => lpick_eq m0 50000 HR.out.2.2 (by decide) (by decide) W)
  have r0 := Tf.pk_range m0 (n := 50000) (by decide)
  obtain ⟨r3, hr3⟩ : ∃ r, Tf.pk m0 50000 = r := ⟨_, rfl⟩
  rw [hr3] at HPM r0
  clear hr3
  have y5 : IntKind.i64.wrap (b1 + r3) = b1 + r3 := IntWalk.i64_in _ (by omega)
  go_wp2_with fail
  refine wp_region_still_tail 6 (by kernel_rfl) (by kernel_rfl) ?_
  simp only [List.take_succ_cons, List.take_zero, List.drop_succ_cons, List.drop_zero]
  change wpStill _ _ w7.drew (fun a' => wpList _ _ _ _ a' w7.drew) _ _
  obtain ⟨W8, hW8⟩ : ∃ W, w7.drew = W := ⟨_, rfl⟩
  replace s4 : w7.drew.cell? _ = _ := s4
  replace s5 : w7.drew.cell? _ = _ := s5
  replace fz : w7.drew.frozen? _ = _ := fz
  replace k7 : w7.drew.heap[_]? = _ := k7
  replace x7 := x7.drew
  rw [hW8] at s4 s5 fz k7 x7 ⊢
  clear hW8
  repeat (first | still_step | (refine wpStill_step (fun K hK => ?_); go_simp; (with_reducible refine ⟨_, HPM.out _, hK _ ?_⟩); clear hK K))
  refine wpStill_nil ?_
  have C8 := C2.go (x7.setCell (p := ⟨w3.heap.size, 1, none⟩) x3 (.int .i64 (b1 + r3)))
  have q6 := C8.x0
  have q7 := C8.x1
  have k8 := sc_row _ _ 1 (.int .i64 (b1 + r3)) k7
  have s6 : (W8.setCell ⟨w3.heap.size, 1, none⟩ (.int .i64 (b1 + r3))).cell? ⟨w3.heap.size, 0, none⟩ = some (.int .i64 a) := by rw [World.cell?, k8]; rfl
  have s7 : (W8.setCell ⟨w3.heap.size, 1, none⟩ (.int .i64 (b1 + r3))).cell? ⟨w3.heap.size, 1, none⟩ = some (.int .i64 (b1 + r3)) := by rw [World.cell?, k8]; rfl
  clear k4 k5 k7 k8 y5
  go_wp2_with fail
  refine (cheapest_ok C8.tar c' z a (b1 + r3) nn ⟨hz1, hz2⟩ ha0 (by omega) (by omega) hn1.1 (by omega)).mono ?_
  rintro e w9 ⟨⟨t3, rfl, hF3⟩, hb9⟩
  have hfin := (C8.go hb9).below
  have hw := HF.out.wider hF3 (by omega)
  have h6 := HF.out.le (s := t2) (by omega) (by omega)
  rw [HLS.out] at hw h6
  rw [show Tf.win (Tf.price x z) nn t2 = e1 from HE1.out] at h6
  obtain ⟨l3, hl3⟩ : ∃ v, Tf.win (Tf.price x z) nn t3 = v := ⟨_, rfl⟩
  rw [hl3] at hw ⊢
  have HFIN := Lib.hid hfin
  clear hl3 hF3 hfin
  obtain ⟨h6a, h6b⟩ := h6
  by_cases hc : t1 ≤ t2
  · clear h6b
    go_wp2
    go_ret
    exact ⟨rfl, HFIN.out⟩
  · have h7 : ls < e1 := by omega
    have h8 : t2 < t1 := by omega
    clear h6b
    go_wp2
    go_ret
    exact ⟨rfl, HFIN.out⟩
end Go.Proofs.YtbenflnpnohcjaaGreatDoor
