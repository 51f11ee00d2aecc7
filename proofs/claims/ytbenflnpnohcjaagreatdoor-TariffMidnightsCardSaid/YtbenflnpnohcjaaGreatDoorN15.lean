/- The greatest common divisor, and the division, of two integers. -/
import Derived.Test.YtbenflnpnohcjaaGreatDoorN14
import Derived.Test.YtbenflnpnohcjaaGreatDoorN9
import Derived.BigQuiet
import Derived.Deep.LoopGhost
namespace Go.Proofs.YtbenflnpnohcjaaGreatDoor
open Go.RowKit Go.Shelf

theorem lim_len {N : Nat} (h : N < Nm.lim) : (Nm.grp 10000 N).length ≤ 50 := by
  refine grp_len_of_lt ?_
  have : Nm.lim = 10000 ^ 50 := by unfold Nm.lim; decide
  rw [← this]; exact h

theorem below_drewN' (W : World) (n : Nat) : Below W.heap.size W (W.drewN n) := ⟨rfl, rfl, rfl, Nat.le_refl _, fun _ _ => rfl⟩

set_option maxRecDepth 100000 in
set_option maxHeartbeats 2000000 in
theorem gcd_any (a b : Int) (ha : a.natAbs < Nm.lim) (hb : b.natAbs < Nm.lim) (w : World) (ht : Tab w) :
    Calls Tryz.prog 93 #[.string (Nm.Tx a), .string (Nm.Tx b)] w fun e w' => e = .returned (.tuple #[.string (Nm.Tx (Int.gcd a b)), .int .i64 0]) ∧ Below w.heap.size w w' := by
  have HB := Lib.hid (both_any a b ha hb w)
  have HTX := Lib.hid (fun K v W (h1 : NumV W v K) (h2 : K < Nm.lim) (h3 : Below w.heap.size w W) => text_any false K v W h1 (by have := lim_len h2; omega) (ht.below h3))
  have HOV := Lib.hid (fun K L v u W (h1 : NumV W v K) (h2 : NumV W u L) (h3 : K < Nm.lim) (h4 : L < Nm.lim) (h5 : 0 < L) => over_any K L h5 v u W h1 h2 (by have := lim_len h3; omega) (by have := lim_len h4; omega))
  have HG := Lib.hid (show Int.gcd a b = Nat.gcd a.natAbs b.natAbs from rfl)
  have HL := Lib.hid (And.intro ha hb)
  clear ht ha hb
  generalize decide (a < 0) = na at *
  go_enter Tryz.func93, Tryz.ntmps93
  go_wp2_with (first | (go_at_call 87; refine HB.out.mono ?_; rintro e w1 ⟨⟨x, y, rfl, ⟨va, rfl, hva⟩, ⟨vb, rfl, hvb⟩⟩, hb1⟩; have HA2 := Lib.hid hva; have HB2 := Lib.hid hvb; obtain ⟨A1, k1, hveq, _⟩ := hva; subst hveq; obtain ⟨A2, k2, hveq, _⟩ := hvb; subst hveq))
  go_quiet (fail)
  go_wp2
  go_loopg [9, 10] b.natAbs (fun gk s t wr => ∃ K, NumV wr s K ∧ NumV wr t gk ∧ Aside (Nat.gcd K gk = Nat.gcd a.natAbs b.natAbs ∧ K < Nm.lim ∧ gk < Nm.lim ∧ Below w.heap.size w wr))
  case atStart =>
    have hbw : Below w1.heap.size w1 (((w1.alloc (.cells #[.bool (decide (a < 0)), .slice A1 (Nm.grp 10000 a.natAbs).length k1] 114)).alloc (.cells #[.bool (decide (b < 0)), .slice A2 (Nm.grp 10000 b.natAbs).length k2] 114)).drewN nq) := (below_al2 _ _ _).trans ((below_drewN' _ nq).mono (below_al2 _ _ _).size)
    exact ⟨a.natAbs, HA2.out.below hbw, HB2.out.below hbw, rfl, HL.out.1, HL.out.2, hb1.trans (hbw.mono hb1.size)⟩
  case round =>
    obtain ⟨K, hK, hL, has⟩ := hrel
    obtain ⟨hg, h1, h2, hB⟩ := has.out
    have HH := Lib.hid (And.intro hK (And.intro hL (And.intro hg (And.intro h1 (And.intro h2 hB)))))
    obtain ⟨A3, k3, rfl, _⟩ := hK
    obtain ⟨A4, k4, rfl, _⟩ := hL
    clear hg h1 h2 hB has
    by_cases hg0 : gk = 0
    · have hl0 : (Nm.grp 10000 gk).length = 0 := by rw [hg0, Nm.grp_zero]; rfl
      have HT := Lib.hid (HTX.out K _ wr HH.out.1 HH.out.2.2.2.1 HH.out.2.2.2.2.2)
      have hfin : Int.gcd a b = K := by
        rw [HG.out, ← HH.out.2.2.1, hg0, Nat.gcd_zero_right]
      have HF := Lib.hid hfin
      have HIF := Lib.hid HH.out.2.2.2.1
      have HBB := Lib.hid HH.out.2.2.2.2.2
      have hifp : (if K < Nm.lim then Value.tuple #[.string (Nm.Tx (Nm.sg false K)), .int .i64 0] else .tuple #[.string ⟨#[]⟩, .int .i64 30]) = .tuple #[.string (Nm.Tx (K : Int)), .int .i64 0] := by rw [if_pos HIF.out]; rfl
      rw [hifp] at HT
      clear hg0 hfin hifp HH
      go_wp2_with (first | (go_at_call 89; refine HT.out.mono ?_; rintro e w2 ⟨rfl, hb2⟩))
      go_ret2
      exact ⟨by rw [HF.out]; rfl, HBB.out.trans (hb2.mono HBB.out.size)⟩
    · have hl0 : (0 : Int) < ((Nm.grp 10000 gk).length : Int) := by
        have := (Nm.grp_len_iff gk 0).2 (by simpa using hg0)
        omega
      have HO := Lib.hid (HOV.out K gk _ _ wr HH.out.1 HH.out.2.1 HH.out.2.2.2.1 HH.out.2.2.2.2.1 (by omega))
      have HG0 := Lib.hid hg0
      clear hg0
      go_wp2_with (first | (go_at_call 94; refine HO.out.mono ?_; rintro e w2 ⟨⟨q, r, rfl, hq, hr⟩, hb2⟩))
      have hm : K % gk < gk := Nat.mod_lt _ (Nat.pos_of_ne_zero HG0.out)
      go_roundg (K % gk)
      case measure => exact hm
      case rel =>
        refine ⟨gk, HH.out.2.1.below hb2, hr, ?_, HH.out.2.2.2.2.1, Nat.lt_trans hm HH.out.2.2.2.2.1, HH.out.2.2.2.2.2.trans (hb2.mono HH.out.2.2.2.2.2.size)⟩
        rw [← HH.out.2.2.1, Nat.gcd_comm gk, ← Nat.gcd_rec, Nat.gcd_comm]
end Go.Proofs.YtbenflnpnohcjaaGreatDoor
