/- The law TariffAdds: its walk. -/
import Derived.Test.YtbenflnpnohcjaaGreatDoorLCom
namespace Go.Proofs.YtbenflnpnohcjaaGreatDoor
open Go.RowKit Go.Shelf

theorem lpick_eq (x n : Int) (hx : rng x) (hn : 0 < n) (hn2 : n ≤ 1000000000) (w : World) :
    Calls Tryz.prog 36 #[.int .i64 x, .int .i64 n] w fun e w' => e = .returned (.int .i64 (Tf.pk x n)) ∧ w' = w := by
  obtain ⟨h0, h1⟩ := hx
  have hnz : (n == 0) = false := by rw [beq_eq_false_iff_ne]; omega
  have hn1 : (n == -1) = false := by rw [beq_eq_false_iff_ne]; omega
  obtain ⟨r, hr⟩ : ∃ r, Tf.pk x n = r := ⟨_, rfl⟩
  have hrr := Tf.pk_range x hn
  rw [hr] at hrr ⊢
  unfold Tf.pk at hr
  by_cases hx : x < 0
  · rw [if_pos hx] at hr
    obtain ⟨y, hy⟩ : ∃ y, -(x + 1) = y := ⟨_, rfl⟩
    have hy0 : 0 ≤ y ∧ y ≤ 9223372036854775807 := by omega
    rw [hy] at hr
    go_enter Tryz.func36, Tryz.ntmps36
    go_wp2
    go_ret
    exact ⟨rfl, rfl⟩
  · rw [if_neg hx] at hr
    go_enter Tryz.func36, Tryz.ntmps36
    go_wp2
    go_ret
    exact ⟨rfl, rfl⟩

theorem bt {A B C : World} (h : Below A.heap.size A B) (k : Below B.heap.size B C) : Below A.heap.size A C := h.trans (k.mono h.size)

theorem amt_add (x : Tf.Tariff) (z a b c : Int) : amt x z a c = amt x z a b + amt x z b c := by unfold amt; omega
theorem amt_self (x : Tf.Tariff) (z a : Int) : amt x z a a = 0 := by unfold amt; omega

/-- What a round of the law on divided calls keeps. -/
structure AddI (w wr : World) (x : Tf.Tariff) (A' : Option Addr) (c' B1 B2 m k : Nat) (a b t : Int) : Prop where
  ctx : Ctx w wr x A' c' B1
  s0 : wr.cell? ⟨B2, 0, none⟩ = some (.int .i64 a)
  s1 : wr.cell? ⟨B2, 1, none⟩ = some (.int .i64 b)
  fin : k = 7 ∨ k = m + 1 → t = b
theorem AddI.go {w wr w' : World} {x : Tf.Tariff} {A' : Option Addr} {c' B1 B2 m k k' : Nat} {a b t t' : Int} (h : AddI w wr x A' c' B1 B2 m k a b t) (hb : Below wr.heap.size wr w') (hf : k' = 7 ∨ k' = m + 1 → t' = b) : AddI w w' x A' c' B1 B2 m k' a b t' :=
  ⟨h.ctx.go hb, cell_below hb h.s0, cell_below hb h.s1, hf⟩

set_option maxRecDepth 100000 in
set_option maxHeartbeats 2000000 in
theorem addsLaw_any (A : Option Addr) (n c : Nat) (y : Nat → Nat → Int) (A2 : Option Addr) (m c2 : Nat) (u : Nat → Int) (bs z0 x0 y0 : Int) (w : World) (ht : Tab w) (hX : XsAt w A n y) (hn : n ≤ 9223372036854775807) (hU : IsAt w A2 m u) (hm : m ≤ 9223372036854775807) (hb : rng bs) (h0 : rng z0) (h1 : rng x0) (h2 : rng y0) :
    Calls Tryz.prog 5 #[.int .i64 bs, .slice A n c, .int .i64 z0, .int .i64 x0, .int .i64 y0, .slice A2 m c2] w fun e w' => e = .returned (.bool true) ∧ Below w.heap.size w w' := by
  have HS := Lib.hid (sane_any w ht)
  have HM := Lib.hid (fun W (h : Below w.heap.size w W) => made_ok (W := W) A n c y bs hb (hX.below h) hn)
  have HZ := Lib.hid (fun W => zoned_any z0 h0.1 h0.2 W)
  have HD := Lib.hid (fun W => during_any x0 y0 h1.1 h1.2 h2.1 h2.2 W)
  have HU := Lib.hid hU
  have HMM := Lib.hid hm
  clear ht hX hb h0 h1 h2 hn hU hm
  go_enter Tryz.func5, Tryz.ntmps5
  go_wp2_with (first
    | (go_at_call 14; (with_reducible refine HS.out.mono ?_); rintro e w1 ⟨rfl, hb1⟩)
    | (go_at_call 15; (with_reducible refine (HM.out _ hb1).mono ?_); rintro e w2 ⟨⟨x, A', c', rfl, hT, -, -, -⟩, hb2⟩; have C2 := Ctx.new (c := c') hb1 hb2 hT)
    | (go_at_call 20; (with_reducible refine (HZ.out _).mono ?_); rintro e wz ⟨⟨z, rfl, hz1, hz2⟩, rfl⟩)
    | (go_at_call 23; (with_reducible refine (HD.out _).mono ?_); rintro e w3 ⟨⟨a, b, rfl, ha0, ha1, hab, hb0⟩, hb3⟩; have C3 := (C2.go hb3).go (below_al1 w3 (.cells #[.int .i64 a, .int .i64 b] 28)); have p1 := C3.x0; have p2 := C3.x1)
    | (go_at_call 24; (with_reducible refine (sum_ok C3.tar c' z a b ⟨hz1, hz2⟩ ha0 hab (by omega)).mono ?_); rintro e w4 ⟨rfl, hb4⟩; have C4 := C3.go hb4; have p3 := C4.x0; have p4 := C4.x1; obtain ⟨d0, d1, -, -⟩ := new_two _ _ _ _ _ hb4)
    | (go_at_call 26; (with_reducible refine (amount_ok C4.tar c' z a b ⟨hz1, hz2⟩ ha0 hab (by omega)).mono ?_); rintro e w5 ⟨rfl, hb5⟩; have C5 := C4.go hb5; have d2 := cell_below hb5 d0; have d3 := cell_below hb5 d1))
  have HI : Aside (AddI w w5 x A' c' w2.heap.size w3.heap.size m 0 a b a) := ⟨C5, d2, d3, fun h => by omega⟩
  obtain ⟨sm, hsm⟩ : ∃ s, Tf.S (Tf.price x z) a b = s := ⟨_, rfl⟩
  obtain ⟨am, ham⟩ : ∃ s, amt x z a b = s := ⟨_, rfl⟩
  rw [hsm, ham]
  have HSM := Lib.hid (And.intro hsm ham)
  clear hsm ham p1 p2 p3 p4 d0 d1 d2 d3 C2 C3 C4 C5 hb1 hb2 hb3 hb4 hb5 hT
  have hok := HI.out.ctx.tar.ok
  generalize w2.heap.size = B1 at *
  generalize w3.heap.size = B2 at *
  go_loopw [20, 21, 22, 23] (fun v20 v21 v22 v23 wr => ∃ (k : Nat) (t : Int), v23 = .int .i64 (k : Int) ∧ v22 = .int .i64 t ∧ v20 = .int .i64 (Tf.S (Tf.price x z) a t) ∧ v21 = .int .i64 (amt x z a t) ∧ k ≤ 7 ∧ k ≤ m + 1 ∧ a ≤ t ∧ t ≤ b ∧ Aside (AddI w wr x A' c' B1 B2 m k a b t)) (fun _ _ _ v23 _ => 8 - (intOf v23).toNat)
  case atStart => exact ⟨0, a, rfl, rfl, by rw [Tf.S_self], by rw [amt_self], by omega, by omega, by omega, hab, HI⟩
  case round =>
    obtain ⟨k, t, rfl, rfl, rfl, rfl, hk7, hkm, hat, htb, I⟩ := hrel
    have s0 := I.out.s0
    have s1 := I.out.s1
    by_cases hin : k ≤ m ∧ k ≤ 6
    · obtain ⟨hkm', hk6⟩ := hin
      have hkz : (k : Int) ≤ (m : Int) := by omega
      have hkz6 : (k : Int) ≤ 6 := by omega
      obtain ⟨f1, f2, f3, f4, -, -⟩ := rounds_fact hok z ha0 hat (by omega)
      obtain ⟨p, hp⟩ : ∃ p, Tf.S (Tf.price x z) a t = p := ⟨_, rfl⟩
      obtain ⟨q, hq⟩ : ∃ q, amt x z a t = q := ⟨_, rfl⟩
      rw [hp] at f1 f2 ⊢
      rw [hq] at f3 f4 ⊢
      have HPQ := Lib.hid (And.intro hp hq)
      have C := I.out.ctx
      have c0 := C.x0
      have c1 := C.x1
      clear hp hq
      by_cases hlt : k < m ∧ k < 6
      · obtain ⟨hl1, hl2⟩ := hlt
        have hlz1 : (k : Int) < (m : Int) := by omega
        have hlz2 : (k : Int) < 6 := by omega
        obtain ⟨bb, off, rfl, hbw, hcell⟩ : ∃ b off, A2 = some ⟨b, off, none⟩ ∧ b < w.heap.size ∧ ∀ i, i < m → w.cell? ⟨b, off + i, none⟩ = some (.int .i64 (u i)) ∧ -9223372036854775808 ≤ u i ∧ u i ≤ 9223372036854775807 := by
          rcases HU.out with h | h
          · omega
          · exact h
        obtain ⟨g0, g1, g2⟩ := hcell k hl1
        have g3 := cell_below C.below g0
        obtain ⟨uk, huk⟩ : ∃ v, u k = v := ⟨_, rfl⟩
        rw [huk] at g1 g2 g3
        have r0 := Tf.pk_range uk (n := b - t + 1) (by omega)
        obtain ⟨r, hr⟩ : ∃ r, Tf.pk uk (b - t + 1) = r := ⟨_, rfl⟩
        have HPK := Lib.hid (fun W => lpick_eq uk (b - t + 1) ⟨g1, g2⟩ (by omega) (by omega) W)
        rw [hr] at HPK r0
        have z1 : IntKind.i64.wrap (b - t) = b - t := IntWalk.i64_in _ (by omega)
        have z2 : IntKind.i64.wrap (b - t + 1) = b - t + 1 := IntWalk.i64_in _ (by omega)
        have z3 : IntKind.i64.wrap (t + r) = t + r := IntWalk.i64_in _ (by omega)
        clear hcell g0 huk hr
        go_wp2
        go_quiet ((go_at_call 36; exact Calls.quiet_of_same (HPK.out _)))
        obtain ⟨tn, htn⟩ : ∃ v, t + r = v := ⟨_, rfl⟩
        have hn1 : t ≤ tn ∧ tn ≤ b := by omega
        rw [htn] at z3
        have HTN := Lib.hid htn
        have CQ := C.go (below_drewN'' wr nq)
        clear z1 z2 z3 htn
        go_wp2_with fail
        rw [HTN.out]
        refine (sum_ok CQ.tar c' z t tn ⟨hz1, hz2⟩ (by omega) hn1.1 (by omega)).mono ?_
        rintro e w6 ⟨rfl, hb6⟩
        have C6 := CQ.go hb6
        have c2 := C6.x0
        have c3 := C6.x1
        obtain ⟨j1, j2, j3, j4, -, -⟩ := rounds_fact hok z (by omega : 0 ≤ t) hn1.1 (by omega)
        go_wp2_with fail
        refine (amount_ok C6.tar c' z t tn ⟨hz1, hz2⟩ (by omega) hn1.1 (by omega)).mono ?_
        rintro e w7 ⟨rfl, hb7⟩
        have hs := Tf.S_add (Tf.price x z) hat hn1.1
        have ha := amt_add x z a t tn
        have HSA := Lib.hid (And.intro hs ha)
        generalize Tf.S (Tf.price x z) t tn = p2 at *
        generalize amt x z t tn = q2 at *
        clear hs ha
        go_wp2
        go_roundw
        case rel =>
          obtain ⟨e1, e2⟩ := HSA.out
          obtain ⟨e3, e4⟩ := HPQ.out
          exact ⟨k + 1, tn, by go_num, rfl, by rw [e1, e3], by rw [e2, e4], by omega, by omega, by omega, hn1.2, I.out.go ((below_drewN'' wr nq).trans (hb6.trans (hb7.mono hb6.size))) (fun h => by omega)⟩
        case measure => simp [intOf] <;> omega
      · have hge : k < m → k = 6 := by omega
        have HGE := Lib.hid hge
        have hft : k + 1 = 7 ∨ k + 1 = m + 1 := by omega
        clear hge hlt
        rcases (show (k < m ∧ ¬ k < 6) ∨ ¬ k < m from by have := HGE.out; omega) with ⟨hl1, hl2⟩ | hl1
        · have hlz1 : (k : Int) < (m : Int) := by omega
          have hlz2 : ¬ (k : Int) < 6 := by omega
          go_wp2_with fail
          refine (sum_ok C.tar c' z t b ⟨hz1, hz2⟩ (by omega) htb (by omega)).mono ?_
          rintro e w6 ⟨rfl, hb6⟩
          have C6 := C.go hb6
          have c2 := C6.x0
          have c3 := C6.x1
          obtain ⟨j1, j2, j3, j4, -, -⟩ := rounds_fact hok z (by omega : 0 ≤ t) htb (by omega)
          go_wp2_with fail
          refine (amount_ok C6.tar c' z t b ⟨hz1, hz2⟩ (by omega) htb (by omega)).mono ?_
          rintro e w7 ⟨rfl, hb7⟩
          have hs := Tf.S_add (Tf.price x z) hat htb
          have ha := amt_add x z a t b
          have HSA := Lib.hid (And.intro hs ha)
          generalize Tf.S (Tf.price x z) t b = p2 at *
          generalize amt x z t b = q2 at *
          clear hs ha
          go_wp2
          go_roundw
          case rel =>
            obtain ⟨e1, e2⟩ := HSA.out
            obtain ⟨e3, e4⟩ := HPQ.out
            exact ⟨k + 1, b, by go_num, rfl, by rw [e1, e3], by rw [e2, e4], by omega, by omega, by omega, Int.le_refl _, I.out.go (hb6.trans (hb7.mono hb6.size)) (fun _ => rfl)⟩
          case measure => simp [intOf] <;> omega
        · have hlz1 : ¬ (k : Int) < (m : Int) := by omega
          go_wp2_with fail
          refine (sum_ok C.tar c' z t b ⟨hz1, hz2⟩ (by omega) htb (by omega)).mono ?_
          rintro e w6 ⟨rfl, hb6⟩
          have C6 := C.go hb6
          have c2 := C6.x0
          have c3 := C6.x1
          obtain ⟨j1, j2, j3, j4, -, -⟩ := rounds_fact hok z (by omega : 0 ≤ t) htb (by omega)
          go_wp2_with fail
          refine (amount_ok C6.tar c' z t b ⟨hz1, hz2⟩ (by omega) htb (by omega)).mono ?_
          rintro e w7 ⟨rfl, hb7⟩
          have hs := Tf.S_add (Tf.price x z) hat htb
          have ha := amt_add x z a t b
          have HSA := Lib.hid (And.intro hs ha)
          generalize Tf.S (Tf.price x z) t b = p2 at *
          generalize amt x z t b = q2 at *
          clear hs ha
          go_wp2
          go_roundw
          case rel =>
            obtain ⟨e1, e2⟩ := HSA.out
            obtain ⟨e3, e4⟩ := HPQ.out
            exact ⟨k + 1, b, by go_num, rfl, by rw [e1, e3], by rw [e2, e4], by omega, by omega, by omega, Int.le_refl _, I.out.go (hb6.trans (hb7.mono hb6.size)) (fun _ => rfl)⟩
          case measure => simp [intOf] <;> omega
    · have hfin : t = b := I.out.fin (by omega)
      obtain rfl := hfin
      obtain ⟨e1, e2⟩ := HSM.out
      rw [e1, e2]
      have c0 := I.out.ctx.below
      have HF := Lib.hid c0
      clear c0
      rcases (show ¬ k ≤ m ∨ (k ≤ m ∧ ¬ k ≤ 6) from by omega) with hl1 | ⟨hl1, hl2⟩
      · have hlz1 : ¬ (k : Int) ≤ (m : Int) := by omega
        go_wp2
        go_ret
        exact ⟨rfl, HF.out⟩
      · have hlz1 : (k : Int) ≤ (m : Int) := by omega
        have hlz2 : ¬ (k : Int) ≤ 6 := by omega
        go_wp2
        go_ret
        exact ⟨rfl, HF.out⟩
end Go.Proofs.YtbenflnpnohcjaaGreatDoor
