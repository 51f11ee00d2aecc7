/- The greatest common divisor, and the division, of two integers. The division of two integers, with a remainder that is not negative. -/
import Derived.Test.YtbenflnpnohcjaaGreatDoorN14
import Derived.Test.YtbenflnpnohcjaaGreatDoorN9
import Derived.BigQuiet
import Derived.Deep.LoopGhost
import Derived.Deep.RegionHeld3
namespace Go.Proofs.YtbenflnpnohcjaaGreatDoor
open Go.RowKit Go.Shelf

theorem lim_len {N : Nat} (h : N < Nm.lim) : (Nm.grp 10000 N).length ≤ 50 := by
  refine grp_len_of_lt ?_
  have : Nm.lim = 10000 ^ 50 := by unfold Nm.lim; decide
  rw [← this]; exact h

theorem below_drewN' (W : World) (n : Nat) : Below W.heap.size W (W.drewN n) := ⟨rfl, rfl, rfl, Nat.le_refl _, fun _ _ => rfl⟩

set_option maxRecDepth 100000 in
set_option maxHeartbeats 2000000 in
theorem gcd_any (a b : Int) (ha : a.natAbs < Nm.lim) (hb : b.natAbs < Nm.lim) (w : World) (ht : Tab w) :
    Calls Tryz.prog 93 #[.string (Nm.Tx a), .string (Nm.Tx b)] w fun e w' => e = .returned (.tuple #[.string (Nm.Tx (Int.gcd a b)), .int .i64 0]) ∧ Below w.heap.size w w' := by
  have HB := Lib.hid (both_any a b ha hb w)
  have HTX := Lib.hid (fun K v W (h1 : NumV W v K) (h2 : K < Nm.lim) (h3 : Below w.heap.size w W) => text_any false K v W h1 (by have := lim_len h2; omega) (ht.below h3))
  have HOV := Lib.hid (fun K L v u W (h1 : NumV W v K) (h2 : NumV W u L) (h3 : K < Nm.lim) (h4 : L < Nm.lim) (h5 : 0 < L) => over_any K L h5 v u W h1 h2 (by have := lim_len h3; omega) (by have := lim_len h4; omega))
  have HG := Lib.hid (show Int.gcd a b = Nat.gcd a.natAbs b.natAbs from rfl)
  have HL := Lib.hid (And.intro ha hb)
  clear ht ha hb
  generalize decide (a < 0) = na at *
  go_enter Tryz.func93, Tryz.ntmps93
  go_wp2_with (first | (go_at_call 87; refine HB.out.mono ?_; rintro e w1 ⟨⟨x, y, rfl, ⟨va, rfl, hva⟩, ⟨vb, rfl, hvb⟩⟩, hb1⟩; have HA2 := Lib.hid hva; have HB2 := Lib.hid hvb; obtain ⟨A1, k1, hveq, _⟩ := hva; subst hveq; obtain ⟨A2, k2, hveq, _⟩ := hvb; subst hveq))
  go_quiet (fail)
  go_wp2
  go_loopg [9, 10] b.natAbs (fun gk s t wr => ∃ K, NumV wr s K ∧ NumV wr t gk ∧ Aside (Nat.gcd K gk = Nat.gcd a.natAbs b.natAbs ∧ K < Nm.lim ∧ gk < Nm.lim ∧ Below w.heap.size w wr))
  case atStart =>
    have hbw : Below w1.heap.size w1 (((w1.alloc (.cells #[.bool (decide (a < 0)), .slice A1 (Nm.grp 10000 a.natAbs).length k1] 114)).alloc (.cells #[.bool (decide (b < 0)), .slice A2 (Nm.grp 10000 b.natAbs).length k2] 114)).drewN nq) := (below_al2 _ _ _).trans ((below_drewN' _ nq).mono (below_al2 _ _ _).size)
    exact ⟨a.natAbs, HA2.out.below hbw, HB2.out.below hbw, rfl, HL.out.1, HL.out.2, hb1.trans (hbw.mono hb1.size)⟩
  case round =>
    obtain ⟨K, hK, hL, has⟩ := hrel
    obtain ⟨hg, h1, h2, hB⟩ := has.out
    have HH := Lib.hid (And.intro hK (And.intro hL (And.intro hg (And.intro h1 (And.intro h2 hB)))))
    obtain ⟨A3, k3, rfl, _⟩ := hK
    obtain ⟨A4, k4, rfl, _⟩ := hL
    clear hg h1 h2 hB has
    by_cases hg0 : gk = 0
    · have hl0 : (Nm.grp 10000 gk).length = 0 := by rw [hg0, Nm.grp_zero]; rfl
      have HT := Lib.hid (HTX.out K _ wr HH.out.1 HH.out.2.2.2.1 HH.out.2.2.2.2.2)
      have hfin : Int.gcd a b = K := by
        rw [HG.out, ← HH.out.2.2.1, hg0, Nat.gcd_zero_right]
      have HF := Lib.hid hfin
      have HIF := Lib.hid HH.out.2.2.2.1
      have HBB := Lib.hid HH.out.2.2.2.2.2
      have hifp : (if K < Nm.lim then Value.tuple #[.string (Nm.Tx (Nm.sg false K)), .int .i64 0] else .tuple #[.string ⟨#[]⟩, .int .i64 30]) = .tuple #[.string (Nm.Tx (K : Int)), .int .i64 0] := by rw [if_pos HIF.out]; rfl
      rw [hifp] at HT
      clear hg0 hfin hifp HH
      go_wp2_with (first | (go_at_call 89; refine HT.out.mono ?_; rintro e w2 ⟨rfl, hb2⟩))
      go_ret2
      exact ⟨by rw [HF.out]; rfl, HBB.out.trans (hb2.mono HBB.out.size)⟩
    · have hl0 : (0 : Int) < ((Nm.grp 10000 gk).length : Int) := by
        have := (Nm.grp_len_iff gk 0).2 (by simpa using hg0)
        omega
      have HO := Lib.hid (HOV.out K gk _ _ wr HH.out.1 HH.out.2.1 HH.out.2.2.2.1 HH.out.2.2.2.2.1 (by omega))
      have HG0 := Lib.hid hg0
      clear hg0
      go_wp2_with (first | (go_at_call 94; refine HO.out.mono ?_; rintro e w2 ⟨⟨q, r, rfl, hq, hr⟩, hb2⟩))
      have hm : K % gk < gk := Nat.mod_lt _ (Nat.pos_of_ne_zero HG0.out)
      go_roundg (K % gk)
      case measure => exact hm
      case rel =>
        refine ⟨gk, HH.out.2.1.below hb2, hr, ?_, HH.out.2.2.2.2.1, Nat.lt_trans hm HH.out.2.2.2.2.1, HH.out.2.2.2.2.2.trans (hb2.mono HH.out.2.2.2.2.2.size)⟩
        rw [← HH.out.2.2.1, Nat.gcd_comm gk, ← Nat.gcd_rec, Nat.gcd_comm]
end Go.Proofs.YtbenflnpnohcjaaGreatDoor

namespace Go.Proofs.YtbenflnpnohcjaaGreatDoor
open Go.RowKit Go.Shelf

theorem ediv_parts (a b : Int) (hb : b ≠ 0) : (¬ (a < 0 ∧ a.natAbs % b.natAbs ≠ 0) → Nm.sg (decide (a < 0) != decide (b < 0)) (a.natAbs / b.natAbs) = a / b ∧ ((a.natAbs % b.natAbs : Nat) : Int) = a % b) ∧
    (a < 0 ∧ a.natAbs % b.natAbs ≠ 0 → Nm.sg (decide (a < 0) != decide (b < 0)) (a.natAbs / b.natAbs + 1) = a / b ∧ ((b.natAbs - a.natAbs % b.natAbs : Nat) : Int) = a % b) := by
  have hB : 0 < b.natAbs := by omega
  have h1 := Nat.div_add_mod a.natAbs b.natAbs
  have h2 := Nat.mod_lt a.natAbs hB
  generalize a.natAbs / b.natAbs = q at *
  generalize a.natAbs % b.natAbs = r at *
  have h3 : ((b.natAbs : Nat) : Int) * q + r = a.natAbs := by exact_mod_cast h1
  have key : ∀ (Q R : Int), R + b * Q = a → 0 ≤ R → R < b.natAbs → Q = a / b ∧ R = a % b := by
    intro Q R e1 e2 e3
    by_cases hb0 : 0 < b
    · have := (Int.ediv_emod_unique (a := a) (b := b) (r := R) (q := Q) hb0).2 ⟨e1, e2, by omega⟩
      exact ⟨this.1.symm, this.2.symm⟩
    · have := (Int.ediv_emod_unique (a := a) (b := -b) (r := R) (q := -Q) (by omega)).2 ⟨by rw [Int.neg_mul_neg]; exact e1, e2, by omega⟩
      rw [Int.ediv_neg, Int.emod_neg] at this
      exact ⟨by omega, this.2.symm⟩
  constructor
  · intro hn
    by_cases ha : a < 0
    · have hr : r = 0 := by
        by_cases h : r = 0
        · exact h
        · exact absurd ⟨ha, h⟩ hn
      subst hr
      by_cases hb0 : b < 0
      · have := key q 0 (by rw [show b = -((b.natAbs : Nat) : Int) by omega, Int.neg_mul]; omega) (by omega) (by omega)
        simp only [ha, hb0, decide_true, bne_self_eq_false, Nm.sg, Bool.false_eq_true, if_false]
        exact this
      · have := key (-q) 0 (by rw [Int.mul_neg, show b = ((b.natAbs : Nat) : Int) by omega]; simp; omega) (by omega) (by omega)
        simp only [ha, hb0, decide_true, decide_false, Nm.sg]
        exact this
    · by_cases hb0 : b < 0
      · have := key (-q) r (by (conv => lhs; rw [show b = -((b.natAbs : Nat) : Int) by omega]); rw [Int.neg_mul_neg]; omega) (by omega) (by omega)
        simp only [ha, hb0, decide_true, decide_false, Nm.sg]
        exact this
      · have := key q r (by (conv => lhs; rw [show b = ((b.natAbs : Nat) : Int) by omega]); omega) (by omega) (by omega)
        simp only [ha, hb0, decide_false, bne_self_eq_false, Nm.sg, Bool.false_eq_true, if_false]
        exact this
  · rintro ⟨ha, hr⟩
    have hc : ((b.natAbs - r : Nat) : Int) = b.natAbs - r := by omega
    rw [hc]
    by_cases hb0 : b < 0
    · have := key (q + 1) (b.natAbs - r) (by rw [Int.mul_add, Int.mul_one]; have : b * q = -(((b.natAbs : Nat) : Int) * q) := by (conv => lhs; rw [show b = -((b.natAbs : Nat) : Int) by omega]); rw [Int.neg_mul]
                                             omega) (by omega) (by omega)
      simp only [ha, hb0, decide_true, bne_self_eq_false, Nm.sg, Bool.false_eq_true, if_false]
      exact this
    · have := key (-(q + 1)) (b.natAbs - r) (by rw [Int.mul_neg, Int.mul_add, Int.mul_one]; have : b * q = (((b.natAbs : Nat) : Int) * q) := by (conv => lhs; rw [show b = ((b.natAbs : Nat) : Int) by omega])
                                                omega) (by omega) (by omega)
      simp only [ha, hb0, decide_true, decide_false, Nm.sg]
      exact this

theorem text_ok (neg : Bool) (K : Nat) (v : Value) (W : World) (h1 : NumV W v K) (h2 : K < Nm.lim) (h3 : Tab W) :
    Calls Tryz.prog 89 #[.agg #[.bool neg, v]] W fun e w' => e = .returned (.tuple #[.string (Nm.Tx (Nm.sg neg K)), .int .i64 0]) ∧ Below W.heap.size W w' := by
  have h := text_any neg K v W h1 (by have := lim_len h2; omega) h3
  rw [if_pos h2] at h
  exact h

/-- Two variables of type signed, and a call behind them. -/
theorem al2_cells (W : World) (n1 n2 : Bool) (u1 u2 : Value) (w2 : World) (h : Below ((W.alloc (.cells #[.bool n1, u1] 114)).alloc (.cells #[.bool n2, u2] 114)).heap.size ((W.alloc (.cells #[.bool n1, u1] 114)).alloc (.cells #[.bool n2, u2] 114)) w2) :
    w2.cell? ⟨W.heap.size, 0, none⟩ = some (.bool n1) ∧ w2.cell? ⟨W.heap.size + 1, 0, none⟩ = some (.bool n2) ∧ w2.cell? ⟨W.heap.size + 1, 1, none⟩ = some u2 ∧ Below W.heap.size W w2 := by
  have e1 : ((W.alloc (.cells #[.bool n1, u1] 114)).alloc (.cells #[.bool n2, u2] 114)).heap[W.heap.size]? = some (.cells #[.bool n1, u1] 114 (0, 0)) := by
    rw [heap_past' _ _ (by simp), heap_at' _ _ rfl]
  have e2 : ((W.alloc (.cells #[.bool n1, u1] 114)).alloc (.cells #[.bool n2, u2] 114)).heap[W.heap.size + 1]? = some (.cells #[.bool n2, u2] 114 (0, 0)) := heap_at' _ _ (by simp)
  have f1 := (h.block W.heap.size (by simp; omega)).trans e1
  have f2 := (h.block (W.heap.size + 1) (by simp)).trans e2
  exact ⟨by simp [World.cell?, f1], by simp [World.cell?, f2], by simp [World.cell?, f2], (below_al2 W _ _).trans (h.mono (below_al2 W _ _).size)⟩

set_option maxRecDepth 100000 in
set_option maxHeartbeats 2000000 in
theorem div_any (a b : Int) (ha : a.natAbs < Nm.lim) (hb : b.natAbs < Nm.lim) (hb0 : b ≠ 0) (hn : ¬ (a < 0 ∧ a.natAbs % b.natAbs ≠ 0)) (w : World) (ht : Tab w) :
    Calls Tryz.prog 71 #[.string (Nm.Tx a), .string (Nm.Tx b)] w fun e w' => e = .returned (.tuple #[.string (Nm.Tx (a / b)), .string (Nm.Tx (a % b)), .int .i64 0]) ∧ Below w.heap.size w w' := by
  have hp := ediv_parts a b hb0
  have hB : 0 < b.natAbs := by omega
  have HB := Lib.hid (both_any a b ha hb w)
  have HTX := Lib.hid (fun neg K v W (h1 : NumV W v K) (h2 : K < Nm.lim) (h3 : Below w.heap.size w W) => text_ok neg K v W h1 h2 (ht.below h3))
  have HOV := Lib.hid (fun v u W (h1 : NumV W v a.natAbs) (h2 : NumV W u b.natAbs) => over_any a.natAbs b.natAbs hB v u W h1 h2 (by have := lim_len ha; omega) (by have := lim_len hb; omega))
  have hl0 : (((Nm.grp 10000 b.natAbs).length : Int) == 0) = false := by
    have := (Nm.grp_len_iff b.natAbs 0).2 (by simp; omega)
    rw [beq_eq_false_iff_ne]
    omega
  have hql : a.natAbs / b.natAbs < Nm.lim := Nat.lt_of_le_of_lt (Nat.div_le_self _ _) ha
  have hrl : a.natAbs % b.natAbs < Nm.lim := Nat.lt_trans (Nat.mod_lt _ hB) hb
  unfold SgV at HB
  have hp1 := hp.1 hn
  rw [← hp1.1, ← hp1.2]
  have hr0 : a < 0 → decide (0 < (Nm.grp 10000 (a.natAbs % b.natAbs)).length) = false := fun h => by
    have : a.natAbs % b.natAbs = 0 := by
      by_cases h2 : a.natAbs % b.natAbs = 0
      · exact h2
      · exact absurd ⟨h, h2⟩ hn
    rw [this, Nm.grp_zero]; rfl
  clear hp hp1 ht ha hb hn
  have HQL := Lib.hid (And.intro hql hrl)
  clear hql hrl
  generalize decide (b < 0) = nb at *
  by_cases hneg : a < 0
  · have hr1 := hr0 hneg
    rw [decide_eq_true hneg] at HB ⊢
    clear hneg hr0
    go_enter Tryz.func71, Tryz.ntmps71
    go_wp2_with (first | (go_at_call 87; refine HB.out.mono ?_; rintro e w1 ⟨⟨x, y, rfl, ⟨va, rfl, hva⟩, ⟨vb, rfl, hvb⟩⟩, hb1⟩; have HA2 := Lib.hid hva; have HB2 := Lib.hid hvb; obtain ⟨A1, k1, hveq, _⟩ := hva; subst hveq; obtain ⟨A2, k2, hveq, _⟩ := hvb; subst hveq) | (go_at_call 94; refine (HOV.out _ _ _ (HA2.out.below (below_al2 _ _ _)) (HB2.out.below (below_al2 _ _ _))).mono ?_; rintro e w2 ⟨⟨q, r, rfl, hq, hr⟩, hb2⟩; obtain ⟨d1, d2, _, hb3⟩ := al2_cells _ _ _ _ _ _ hb2; have HQ := Lib.hid (And.intro hq (And.intro hr (hb1.trans (hb3.mono hb1.size)))); obtain ⟨A3, k3, hveq, _⟩ := hq; subst hveq; obtain ⟨A4, k4, hveq, _⟩ := hr; subst hveq) | (go_at_call 89; (with_reducible refine (HTX.out _ _ _ _ HQ.out.1 HQL.out.1 HQ.out.2.2).mono ?_); rintro e w3 ⟨rfl, hb4⟩; have HR3 := Lib.hid (HQ.out.2.1.below hb4); have HB3 := Lib.hid (HQ.out.2.2.trans (hb4.mono HQ.out.2.2.size))) | (go_at_call 89; (with_reducible refine (HTX.out _ _ _ _ HR3.out HQL.out.2 HB3.out).mono ?_); rintro e w4 ⟨rfl, hb5⟩))
    refine bodyPost_ret (results_tmp3 rfl _ _ _) rfl ⟨?_, HB3.out.trans (hb5.mono HB3.out.size)⟩
    first | rfl | (rw [Bool.true_bne]; rfl)
  · rw [decide_eq_false hneg] at HB ⊢
    clear hneg hr0
    go_enter Tryz.func71, Tryz.ntmps71
    go_wp2_with (first | (go_at_call 87; refine HB.out.mono ?_; rintro e w1 ⟨⟨x, y, rfl, ⟨va, rfl, hva⟩, ⟨vb, rfl, hvb⟩⟩, hb1⟩; have HA2 := Lib.hid hva; have HB2 := Lib.hid hvb; obtain ⟨A1, k1, hveq, _⟩ := hva; subst hveq; obtain ⟨A2, k2, hveq, _⟩ := hvb; subst hveq) | (go_at_call 94; refine (HOV.out _ _ _ (HA2.out.below (below_al2 _ _ _)) (HB2.out.below (below_al2 _ _ _))).mono ?_; rintro e w2 ⟨⟨q, r, rfl, hq, hr⟩, hb2⟩; obtain ⟨d1, d2, _, hb3⟩ := al2_cells _ _ _ _ _ _ hb2; have HQ := Lib.hid (And.intro hq (And.intro hr (hb1.trans (hb3.mono hb1.size)))); obtain ⟨A3, k3, hveq, _⟩ := hq; subst hveq; obtain ⟨A4, k4, hveq, _⟩ := hr; subst hveq) | (go_at_call 89; (with_reducible refine (HTX.out _ _ _ _ HQ.out.1 HQL.out.1 HQ.out.2.2).mono ?_); rintro e w3 ⟨rfl, hb4⟩; have HR3 := Lib.hid (HQ.out.2.1.below hb4); have HB3 := Lib.hid (HQ.out.2.2.trans (hb4.mono HQ.out.2.2.size))) | (go_at_call 89; (with_reducible refine (HTX.out _ _ _ _ HR3.out HQL.out.2 HB3.out).mono ?_); rintro e w4 ⟨rfl, hb5⟩))
    refine bodyPost_ret (results_tmp3 rfl _ _ _) rfl ⟨?_, HB3.out.trans (hb5.mono HB3.out.size)⟩
    rw [Bool.false_bne]
    rfl
end Go.Proofs.YtbenflnpnohcjaaGreatDoor
