/- sort.Search. -/
import Derived.Test.YtbenflnpnohcjaaGreatDoorN6
namespace Go.Proofs.YtbenflnpnohcjaaGreatDoor
open Go.RowKit Go.Shelf

/-- A test that a closure computes, in each later world. -/
def TestFn (g : Nat) (lb : Array Value) (p : Nat → Bool) (n : Nat) (w : World) : Prop :=
  ∀ (W : World) (i : Nat), i < n → Below w.heap.size w W → Calls Tryz.prog g (#[.int .i64 i] ++ lb) W fun e w' => e = .returned (.bool (p i)) ∧ Below W.heap.size W w'

set_option maxRecDepth 100000 in
set_option maxHeartbeats 1000000 in
theorem sortSearch_any (n : Nat) (hn : n ≤ 1000000) (g : Nat) (lb : Array Value) (p : Nat → Bool) (w : World) (eg : ∀ args w, (callFunc g args).run Tryz.prog w = .ok (.enter g args) w) (hp : TestFn g lb p n w)
    (r : Nat) (hr : r ≤ n) (h0 : ∀ i, i < r → p i = false) (h1 : ∀ i, r ≤ i → i < n → p i = true) :
    Calls Tryz.prog 125 #[.int .i64 n, .func (.func g) #[] lb] w fun e w' => e = .returned (.int .i64 r) ∧ Below w.heap.size w w' := by
  have HP := Lib.hid hp
  have H0 := Lib.hid h0
  have H1 := Lib.hid h1
  clear hp h0 h1
  go_enter Tryz.func125, Tryz.ntmps125
  go_wp2
  go_loopw [5, 6, 7] (fun si sj sh wr => ∃ i j : Nat, si = .int .i64 i ∧ sj = .int .i64 j ∧ i ≤ r ∧ r ≤ j ∧ j ≤ n ∧ Aside (Below w.heap.size w wr)) (fun si sj _ _ => (intOf sj - intOf si).toNat)
  case atStart => exact ⟨0, n, rfl, rfl, Nat.zero_le _, hr, Nat.le_refl _, Below.refl _ _⟩
  case round =>
    obtain ⟨i, j, rfl, rfl, hi, hj, hjn, BW⟩ := hrel
    by_cases hij : i < j
    · have hz : (i : Int) < (j : Int) := by omega
      obtain ⟨h, hh⟩ : ∃ h : Nat, h = (i + j) / 2 := ⟨_, rfl⟩
      have hcall := HP.out wr h (by omega) BW.out
      have hhz : ((i : Int) + (j : Int)) / 2 = (h : Int) := by omega
      have HC := Lib.hid hcall
      have hlo : i ≤ h := by omega
      have hhi : h < j := by omega
      clear hcall hh
      cases hph : p h with
      | false =>
        rw [hph] at HC
        have hrh : h < r := by
          by_cases c : h < r
          · exact c
          · have := H1.out h (by omega) (by omega); rw [hph] at this; cases this
        go_wp2_with (go_at_fn g; refine HC.out.mono ?_; rintro e w1 ⟨rfl, hb1⟩)
        go_roundw
        case rel => exact ⟨h + 1, j, by go_num, rfl, by omega, hj, hjn, BW.out.trans (hb1.mono BW.out.size)⟩
        case measure => simp [intOf]; omega
      | true =>
        rw [hph] at HC
        have hrh : r ≤ h := by
          by_cases c : r ≤ h
          · exact c
          · have := H0.out h (by omega); rw [hph] at this; cases this
        go_wp2_with (go_at_fn g; refine HC.out.mono ?_; rintro e w1 ⟨rfl, hb1⟩)
        go_roundw
        case rel => exact ⟨i, h, rfl, rfl, hi, by omega, by omega, BW.out.trans (hb1.mono BW.out.size)⟩
        case measure => simp [intOf]; omega
    · have hz : ¬ (i : Int) < (j : Int) := by omega
      obtain rfl : i = r := by omega
      go_wp2
      go_ret
      exact ⟨rfl, BW.out⟩
end Go.Proofs.YtbenflnpnohcjaaGreatDoor
