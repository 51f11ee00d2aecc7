/- Compare, Valid, FromInt of package integer; the text of every integer. -/
import Derived.Test.YtbenflnpnohcjaaGreatDoorN13
namespace Go.Proofs.YtbenflnpnohcjaaGreatDoor
open Go.RowKit Go.Shelf

theorem valid92 (s : ByteArray) (hs : s.size ≤ 9223372036854775807) (b : Bool) (hb : b = true ↔ ∃ z, Nm.IsI s z) (w : World) :
    Calls Tryz.prog 92 #[.string s] w fun e w' => e = .returned (.bool b) ∧ Below w.heap.size w w' := by
  have H := Lib.hid (isValid_any s hs b hb w)
  clear hb
  go_enter Tryz.func92, Tryz.ntmps92
  go_wp2_with (go_at_call 112; refine H.out.mono ?_; rintro e w1 ⟨rfl, hb1⟩)
  go_ret
  exact ⟨rfl, hb1⟩

theorem fromInt_any (n : Int) (h0 : -9223372036854775808 ≤ n) (h1 : n ≤ 9223372036854775807) (w : World) (ht : Tab w) :
    Calls Tryz.prog 42 #[.int .i64 n] w fun e w' => e = .returned (.string (Nm.Tx n)) ∧ Below w.heap.size w w' := by
  have H := Lib.hid (Tryz.strconv_Itoa n h0 h1 w ht)
  clear ht
  go_enter Tryz.func42, Tryz.ntmps42
  go_wp2_with (go_at_call 69; refine H.out.mono ?_; rintro e w1 ⟨rfl, k, os, rfl⟩)
  go_ret
  exact ⟨rfl, Lib.below_grow _ w (Nat.le_refl _) k os⟩

set_option maxRecDepth 100000 in
set_option maxHeartbeats 1000000 in
theorem text_any (neg : Bool) (N : Nat) (v : Value) (w : World) (hv : NumV w v N) (lN : (Nm.grp 10000 N).length ≤ 10000) (ht : Tab w) :
    Calls Tryz.prog 89 #[.agg #[.bool neg, v]] w fun e w' => e = .returned (if N < Nm.lim then .tuple #[.string (Nm.Tx (Nm.sg neg N)), .int .i64 0] else .tuple #[.string ⟨#[]⟩, .int .i64 30]) ∧ Below w.heap.size w w' := by
  by_cases hN : N = 0
  · subst hN
    obtain ⟨A, c, rfl, h1, h2, h3, h4⟩ := hv
    rw [Nm.tx_zero, if_pos (show 0 < Nm.lim from by unfold Nm.lim; exact Nat.pos_of_ne_zero (by decide))]
    have hl : (Nm.grp 10000 0).length = 0 := by rw [Nm.grp_zero]; rfl
    clear ht h1 h2
    go_enter Tryz.func89, Tryz.ntmps89
    go_wp2
    go_ret2
    exact ⟨rfl, (Below.refl _ w).alloc (Nat.le_refl _) _⟩
  · exact text_pos neg N hN v w hv lN ht
theorem len_lim {z : Int} (h : z.natAbs < Nm.lim) : (Nm.grp 10000 z.natAbs).length ≤ 50 := by
  refine grp_len_of_lt ?_
  have : Nm.lim = 10000 ^ 50 := by unfold Nm.lim; decide
  rw [← this]; exact h

theorem below_al2 (W : World) (o1 o2 : Obj) : Below W.heap.size W ((W.alloc o1).alloc o2) := ((Below.refl _ W).alloc (Nat.le_refl _) _).alloc (by simp) _
theorem cmp_al (M N : Nat) (v u : Value) (W : World) (o1 o2 : Obj) (hv : NumV W v M) (hu : NumV W u N) (lM : (Nm.grp 10000 M).length ≤ 10000) (lN : (Nm.grp 10000 N).length ≤ 10000) :
    Calls Tryz.prog 98 #[v, u] ((W.alloc o1).alloc o2) fun e w' => e = .returned (.int .i64 (Nm.sgn M N)) ∧ Below W.heap.size W w' := by
  have hb := below_al2 W o1 o2
  refine (compare_any M N v u _ (hv.below hb) (hu.below hb) lM lN).mono ?_
  rintro e w' ⟨rfl, h⟩
  exact ⟨rfl, hb.trans (h.mono hb.size)⟩

set_option maxRecDepth 100000 in
set_option maxHeartbeats 2000000 in
theorem compare72 (a b : Int) (ha : a.natAbs < Nm.lim) (hb : b.natAbs < Nm.lim) (w : World) :
    Calls Tryz.prog 72 #[.string (Nm.Tx a), .string (Nm.Tx b)] w fun e w' => e = .returned (.int .i64 (Nm.sgn a b)) ∧ Below w.heap.size w w' := by
  have HB := Lib.hid (both_any a b ha hb w)
  have la := len_lim ha
  have lb := len_lim hb
  have HCAB := Lib.hid (fun v u W o1 o2 h1 h2 => cmp_al a.natAbs b.natAbs v u W o1 o2 h1 h2 (by omega) (by omega))
  have HCBA := Lib.hid (fun v u W o1 o2 h1 h2 => cmp_al b.natAbs a.natAbs v u W o1 o2 h1 h2 (by omega) (by omega))
  clear la lb ha hb
  by_cases na : a < 0 <;> by_cases nb : b < 0
  · have da : decide (a < 0) = true := decide_eq_true na
    have db : decide (b < 0) = true := decide_eq_true nb
    have hs : Nm.sgn (b.natAbs : Int) (a.natAbs : Int) = Nm.sgn a b := by
      unfold Nm.sgn
      split <;> split <;> (try split) <;> (try split) <;> (first | rfl | (exfalso; omega))
    clear na nb
    go_enter Tryz.func72, Tryz.ntmps72
    go_wp2_with (first | (go_at_call 87; refine HB.out.mono ?_; rintro e w1 ⟨⟨x, y, rfl, ⟨va, rfl, hva⟩, ⟨vb, rfl, hvb⟩⟩, hb1⟩; have HA2 := Lib.hid hva; have HB2 := Lib.hid hvb; obtain ⟨A1, k1, hveq, _⟩ := hva; subst hveq; obtain ⟨A2, k2, hveq, _⟩ := hvb; subst hveq) | (go_at_call 98; refine (HCBA.out _ _ _ _ _ HB2.out HA2.out).mono ?_; rintro e w2 ⟨rfl, hb2⟩))
    go_ret
    exact ⟨rfl, hb1.trans (hb2.mono hb1.size)⟩
  · have da : decide (a < 0) = true := decide_eq_true na
    have db : decide (b < 0) = false := decide_eq_false nb
    have hs : -1 = Nm.sgn a b := by
      unfold Nm.sgn
      rw [if_pos (by omega)]
    rw [← hs]
    clear na nb hs
    go_enter Tryz.func72, Tryz.ntmps72
    go_wp2_with (first | (go_at_call 87; refine HB.out.mono ?_; rintro e w1 ⟨⟨x, y, rfl, ⟨va, rfl, hva⟩, ⟨vb, rfl, hvb⟩⟩, hb1⟩; have HA2 := Lib.hid hva; have HB2 := Lib.hid hvb; obtain ⟨A1, k1, hveq, _⟩ := hva; subst hveq; obtain ⟨A2, k2, hveq, _⟩ := hvb; subst hveq))
    go_ret
    exact ⟨rfl, hb1.trans ((below_al2 _ _ _).mono hb1.size)⟩
  · have da : decide (a < 0) = false := decide_eq_false na
    have db : decide (b < 0) = true := decide_eq_true nb
    have hs : 1 = Nm.sgn a b := by
      unfold Nm.sgn
      rw [if_neg (by omega), if_pos (by omega)]
    rw [← hs]
    clear na nb hs
    go_enter Tryz.func72, Tryz.ntmps72
    go_wp2_with (first | (go_at_call 87; refine HB.out.mono ?_; rintro e w1 ⟨⟨x, y, rfl, ⟨va, rfl, hva⟩, ⟨vb, rfl, hvb⟩⟩, hb1⟩; have HA2 := Lib.hid hva; have HB2 := Lib.hid hvb; obtain ⟨A1, k1, hveq, _⟩ := hva; subst hveq; obtain ⟨A2, k2, hveq, _⟩ := hvb; subst hveq))
    go_ret
    exact ⟨rfl, hb1.trans ((below_al2 _ _ _).mono hb1.size)⟩
  · have da : decide (a < 0) = false := decide_eq_false na
    have db : decide (b < 0) = false := decide_eq_false nb
    have hs : Nm.sgn (a.natAbs : Int) (b.natAbs : Int) = Nm.sgn a b := by
      rw [show (a.natAbs : Int) = a by omega, show (b.natAbs : Int) = b by omega]
    clear na nb
    go_enter Tryz.func72, Tryz.ntmps72
    go_wp2_with (first | (go_at_call 87; refine HB.out.mono ?_; rintro e w1 ⟨⟨x, y, rfl, ⟨va, rfl, hva⟩, ⟨vb, rfl, hvb⟩⟩, hb1⟩; have HA2 := Lib.hid hva; have HB2 := Lib.hid hvb; obtain ⟨A1, k1, hveq, _⟩ := hva; subst hveq; obtain ⟨A2, k2, hveq, _⟩ := hvb; subst hveq) | (go_at_call 98; refine (HCAB.out _ _ _ _ _ HA2.out HB2.out).mono ?_; rintro e w2 ⟨rfl, hb2⟩))
    go_ret
    exact ⟨rfl, hb1.trans (hb2.mono hb1.size)⟩
end Go.Proofs.YtbenflnpnohcjaaGreatDoor
