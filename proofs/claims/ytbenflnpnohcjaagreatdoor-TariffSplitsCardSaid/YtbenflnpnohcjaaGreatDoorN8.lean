/- The closure of number.over: a digit is too great. -/
import Derived.Test.YtbenflnpnohcjaaGreatDoorN7
import Derived.Deep.RegionHeld3
namespace Go.Proofs.YtbenflnpnohcjaaGreatDoor
open Go.RowKit Go.Shelf

theorem compare_any (M N : Nat) (v u : Value) (w : World) (hv : NumV w v M) (hu : NumV w u N) (lM : (Nm.grp 10000 M).length ≤ 10000) (lN : (Nm.grp 10000 N).length ≤ 10000) :
    Calls Tryz.prog 98 #[v, u] w fun e w' => e = .returned (.int .i64 (Nm.sgn M N)) ∧ Below w.heap.size w w' := by
  obtain ⟨A, c, rfl, h1, h2, h3, _⟩ := hv
  obtain ⟨A', c', rfl, k1, k2, k3, _⟩ := hu
  have h := compareL_any A A' c c' _ _ w h1 k1 (by omega) (by omega)
  rw [Nm.cmpL_grp (by omega)] at h
  exact h

theorem grp_len_of_lt {N k : Nat} (h : N < 10000 ^ k) : (Nm.grp 10000 N).length ≤ k := Nm.grp_length_le (by omega) k N h
theorem grp_len_mono {M N : Nat} (h : M ≤ N) : (Nm.grp 10000 M).length ≤ (Nm.grp 10000 N).length := by
  by_cases c : (Nm.grp 10000 N).length < (Nm.grp 10000 M).length
  · have := Nm.grp_length_lt (b := 10000) (by omega) c; omega
  · omega
theorem grp_len_mul {M k : Nat} (hk : k ≤ 9999) : (Nm.grp 10000 (M * k)).length ≤ (Nm.grp 10000 M).length + 1 := by
  refine grp_len_of_lt ?_
  have h1 := Nm.lt_pow_length (b := 10000) (by omega) M
  rw [Nat.pow_succ]
  have h2 : M * k ≤ M * 10000 := Nat.mul_le_mul_left _ (by omega)
  have h3 : M * 10000 < 10000 ^ (Nm.grp 10000 M).length * 10000 := Nat.mul_lt_mul_of_pos_right h1 (by omega)
  omega

set_option maxRecDepth 100000 in
set_option maxHeartbeats 1000000 in
theorem over1_any (M R d : Nat) (hd : d ≤ 9998) (B1 B2 : Nat) (v u : Value) (w : World) (hv : NumV w v M) (hu : NumV w u R) (lM : (Nm.grp 10000 M).length ≤ 9999) (lR : (Nm.grp 10000 R).length ≤ 10000)
    (c1 : w.cell? ⟨B1, 0, none⟩ = some (.func (.func 123) #[v] #[])) (c2 : w.cell? ⟨B2, 0, none⟩ = some u) :
    Calls Tryz.prog 124 #[.int .i64 d, .pointer (some ⟨B1, 0, none⟩), .pointer (some ⟨B2, 0, none⟩)] w fun e w' => e = .returned (.bool (decide (R < M * (d + 1)))) ∧ Below w.heap.size w w' := by
  have HBY := Lib.hid (fun W (h : Below w.heap.size w W) => by_any M (d + 1) (by omega) v W (hv.below h) (by omega))
  have HCMP := Lib.hid (fun v' W W' (h : NumV W v' (M * (d + 1))) (h2 : Below W.heap.size W W') (hb : Below w.heap.size w W') => compare_any (M * (d + 1)) R v' u W' (h.below h2) (hu.below hb) (by have := grp_len_mul (M := M) (k := d + 1) (by omega); omega) lR)
  have e1 : ((d + 1 : Nat) : Int) = (d : Int) + 1 := by omega
  rw [e1] at HBY
  have hwr : IntKind.i64.wrap ((d : Int) + 1) = (d : Int) + 1 := IntWalk.i64_in _ (by omega)
  have HK := Lib.hid (show ∀ W', Below w.heap.size w W' → W'.cell? ⟨B1, 0, none⟩ = some (.func (.func 123) #[v] #[]) ∧ W'.cell? ⟨B2, 0, none⟩ = some u ∧ Below w.heap.size w W' from fun W' h => ⟨cell_below h c1, cell_below h c2, h⟩)
  have HK2 := Lib.hid (show ∀ W W', Below w.heap.size w W → Below W.heap.size W W' → Below w.heap.size w W' from fun W W' h h2 => h.trans (h2.mono h.size))
  have HFIN := Lib.hid (show decide (0 < Nm.sgn ((M * (d + 1) : Nat) : Int) (R : Int)) = decide (R < M * (d + 1)) from by
    unfold Nm.sgn
    rw [decide_eq_decide]
    split
    · constructor <;> intro h <;> omega
    · split
      · constructor <;> intro h <;> omega
      · constructor <;> intro h <;> omega)
  clear hv hu e1
  go_enter Tryz.func124, Tryz.ntmps124
  go_wp2
  go_region_held3 (fun W' => W'.cell? ⟨B1, 0, none⟩ = some (.func (.func 123) #[v] #[]) ∧ W'.cell? ⟨B2, 0, none⟩ = some u ∧ Below w.heap.size w W')
    (with_reducible refine HK.out _ ?_; repeat (first | with_reducible exact (Below.refl _ w).drew | with_reducible assumption | (with_reducible refine HK2.out _ _ ?_ hb3) | (with_reducible refine HK2.out _ _ ?_ hb2)))
    (first | (go_at_call 123; refine (HBY.out _ ?_).mono ?_; (first | with_reducible assumption | with_reducible exact (Below.refl _ w).drew); rintro e w2 ⟨⟨r2, rfl, hr2, _⟩, hb2⟩) | (go_at_call 98; refine (HCMP.out r2 _ _ hr2 (Below.refl _ _) ?_).mono ?_; (with_reducible exact HK2.out _ _ (Below.refl _ w).drew hb2); rintro e w3 ⟨rfl, hb3⟩))
  go_wp2
  go_ret
  refine ⟨?_, ?_⟩
  · have e : ((M * (d + 1) : Nat) : Int) = (M : Int) * ((d : Int) + 1) := by rw [Int.natCast_mul]; rfl
    rw [← HFIN.out, e]; rfl
  · go_split_ands; with_reducible assumption
end Go.Proofs.YtbenflnpnohcjaaGreatDoor
