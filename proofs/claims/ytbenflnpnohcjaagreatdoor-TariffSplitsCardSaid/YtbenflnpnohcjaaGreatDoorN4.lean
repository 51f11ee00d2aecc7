/- Contracts of package integer's numbers: minus, by, one. -/
import Derived.Test.YtbenflnpnohcjaaGreatDoorN3
namespace Go.Proofs.YtbenflnpnohcjaaGreatDoor
open Go.RowKit Go.Shelf

set_option maxRecDepth 100000 in
theorem minus_any (M N : Nat) (hMN : N ≤ M) (v u : Value) (w : World) (hv : NumV w v M) (hu : NumV w u N) (lM : (Nm.grp 10000 M).length ≤ 10000) :
    Calls Tryz.prog 97 #[v, u] w fun e w' => (∃ r, e = .returned r ∧ NumV w' r (M - N) ∧ ∀ b, r.ownBlock = some b → w.heap.size ≤ b) ∧ Below w.heap.size w w' := by
  obtain ⟨A, c, rfl, h1, h2, h3, _⟩ := hv
  obtain ⟨A', c', rfl, k1, k2, k3, _⟩ := hu
  have hll : (Nm.grp 10000 N).length ≤ (Nm.grp 10000 M).length := by
    by_cases c : (Nm.grp 10000 M).length < (Nm.grp 10000 N).length
    · have := Nm.grp_length_lt (b := 10000) (by omega) c; omega
    · omega
  have hb1 : Below w.heap.size w ((w.alloc (.cells #[.slice A (Nm.grp 10000 M).length c] 112)).alloc (.cells #[.slice A' (Nm.grp 10000 N).length c'] 112)) := ((Below.refl _ w).alloc (Nat.le_refl _) _).alloc (by simp) _
  have b1 : BoxSl ((w.alloc (.cells #[.slice A (Nm.grp 10000 M).length c] 112)).alloc (.cells #[.slice A' (Nm.grp 10000 N).length c'] 112)) w.heap.size A (Nm.grp 10000 M) c := ⟨by simp [go_sem], h1.below hb1⟩
  have b2 : BoxSl ((w.alloc (.cells #[.slice A (Nm.grp 10000 M).length c] 112)).alloc (.cells #[.slice A' (Nm.grp 10000 N).length c'] 112)) (w.heap.size + 1) A' (Nm.grp 10000 N) c' := ⟨by simp [go_sem], k1.below hb1⟩
  have hmg := Nm.minus_grp hMN
  have hf := fold_any (Nm.grp 10000 M).length (by omega) 129 #[.pointer (some ⟨w.heap.size, 0, none⟩), .pointer (some ⟨w.heap.size + 1, 0, none⟩)] (fun i => (Nm.grp 10000 M).getD i 0 - (Nm.grp 10000 N).getD i 0) _ (enters_of Tryz.func129 (by kernel_rfl) rfl)
    (fun W i _ hb => minus1_any w.heap.size (w.heap.size + 1) A A' _ _ c c' i W (b1.below hb) (b2.below hb) (grp_range M i) (grp_range N i))
    (fun i => by have := grp_range M i; have := grp_range N i; omega)
    (by rw [getD_len _ (by omega), getD_len _ (by omega)]; rfl)
    (by rw [hmg.2]; omega)
  have hlen : (Nm.outL (fun i => (Nm.grp 10000 M).getD i 0 - (Nm.grp 10000 N).getD i 0) (Nm.grp 10000 M).length).length ≤ 1000000 := by
    unfold Nm.outL
    rw [List.length_append, Nm.digs_length]
    split <;> simp <;> omega
  have htr := hmg.1
  generalize Nm.outL (fun i => (Nm.grp 10000 M).getD i 0 - (Nm.grp 10000 N).getD i 0) (Nm.grp 10000 M).length = out at *
  have HF := Lib.hid hf
  have HT := Lib.hid (And.intro htr hlen)
  generalize (Nm.grp 10000 M).length = lm at *
  generalize (Nm.grp 10000 N).length = ln at *
  have HX := Lib.hid hb1
  clear hf htr hlen b1 b2 h1 k1 hb1 hmg
  go_enter Tryz.func97, Tryz.ntmps97
  go_wp2_with (first | (go_at_call 126; refine HF.out.mono ?_; rintro e w1 ⟨⟨v1, rfl, ho⟩, hb2⟩; have hn := numV_trim (N := M - N) ho HT.out.1 HT.out.2; have HN := Lib.hid hn; have HO := Lib.hid ho; clear hn ho) | (go_at_call 122; refine HN.out.mono ?_; rintro e w2 ⟨⟨v2, rfl, hr⟩, rfl⟩))
  go_ret
  exact ⟨⟨_, rfl, hr.1, fun b hb => Nat.le_trans HX.out.size (hr.2 b hb)⟩, HX.out.trans (hb2.mono (by simp; omega))⟩

set_option maxRecDepth 100000 in
theorem by_any (M k : Nat) (hk : k ≤ 9999) (v : Value) (w : World) (hv : NumV w v M) (lM : (Nm.grp 10000 M).length ≤ 10000) :
    Calls Tryz.prog 123 #[v, .int .i64 k] w fun e w' => (∃ r, e = .returned r ∧ NumV w' r (M * k) ∧ ∀ b, r.ownBlock = some b → w.heap.size ≤ b) ∧ Below w.heap.size w w' := by
  obtain ⟨A, c, rfl, h1, h2, h3, _⟩ := hv
  have hb1 : Below w.heap.size w ((w.alloc (.cells #[.slice A (Nm.grp 10000 M).length c] 112)).alloc (.cells #[.int .i64 k] 3)) := ((Below.refl _ w).alloc (Nat.le_refl _) _).alloc (by simp) _
  have b1 : BoxSl ((w.alloc (.cells #[.slice A (Nm.grp 10000 M).length c] 112)).alloc (.cells #[.int .i64 k] 3)) w.heap.size A (Nm.grp 10000 M) c := ⟨by simp [go_sem], h1.below hb1⟩
  have b2 : ((w.alloc (.cells #[.slice A (Nm.grp 10000 M).length c] 112)).alloc (.cells #[.int .i64 k] 3)).cell? ⟨w.heap.size + 1, 0, none⟩ = some (.int .i64 k) := by simp [go_sem]
  have hr : ∀ i, 0 ≤ (Nm.grp 10000 M).getD i 0 * (k : Int) ∧ (Nm.grp 10000 M).getD i 0 * (k : Int) ≤ 99980001 := fun i => by
    have h2 := grp_range M i
    have h3 : (Nm.grp 10000 M).getD i 0 * (k : Int) ≤ 9999 * 9999 := Int.mul_le_mul h2.2 (by omega) (by omega) (by omega)
    have h4 : 0 ≤ (Nm.grp 10000 M).getD i 0 * (k : Int) := Int.mul_nonneg h2.1 (by omega)
    omega
  have hf := fold_any (Nm.grp 10000 M).length (by omega) 156 #[.pointer (some ⟨w.heap.size, 0, none⟩), .pointer (some ⟨w.heap.size + 1, 0, none⟩)] (fun i => (Nm.grp 10000 M).getD i 0 * (k : Int)) _ (enters_of Tryz.func156 (by kernel_rfl) rfl)
    (fun W i _ hb => by1_any w.heap.size (w.heap.size + 1) A _ c k i W (b1.below hb) (cell_below hb b2) (by have := hr i; omega))
    (fun i => by have := hr i; omega)
    (by rw [getD_len _ (by omega)]; simp)
    (Nm.cy_nonneg (by rw [Nm.sumD_mul, Nm.sumD_list _ _ (by omega), Nm.gv_grp (by omega)]; exact Int.mul_nonneg (by omega) (by omega)))
  have hlen : (Nm.outL (fun i => (Nm.grp 10000 M).getD i 0 * (k : Int)) (Nm.grp 10000 M).length).length ≤ 1000000 := by
    unfold Nm.outL
    rw [List.length_append, Nm.digs_length]
    split <;> simp <;> omega
  have htr := Nm.by_grp M k hk
  generalize Nm.outL (fun i => (Nm.grp 10000 M).getD i 0 * (k : Int)) (Nm.grp 10000 M).length = out at *
  have HF := Lib.hid hf
  have HT := Lib.hid (And.intro htr hlen)
  generalize (Nm.grp 10000 M).length = lm at *
  have HX := Lib.hid hb1
  clear hf htr hlen b1 b2 h1 hb1 hr
  go_enter Tryz.func123, Tryz.ntmps123
  go_wp2_with (first | (go_at_call 126; refine HF.out.mono ?_; rintro e w1 ⟨⟨v1, rfl, ho⟩, hb2⟩; have hn := numV_trim (N := M * k) ho HT.out.1 HT.out.2; have HN := Lib.hid hn; have HO := Lib.hid ho; clear hn ho) | (go_at_call 122; refine HN.out.mono ?_; rintro e w2 ⟨⟨v2, rfl, hr⟩, rfl⟩))
  go_ret
  exact ⟨⟨_, rfl, hr.1, fun b hb => Nat.le_trans HX.out.size (hr.2 b hb)⟩, HX.out.trans (hb2.mono (by simp; omega))⟩

theorem grp_one : Nm.grp 10000 1 = [1] := by
  rw [Nm.grp_pos (by omega) (by omega)]
  rw [show 1 / 10000 = 0 by decide, Nm.grp_zero]
  rfl
theorem one_any (w : World) : Calls Tryz.prog 96 #[] w fun e w' => (∃ r, e = .returned r ∧ NumV w' r 1) ∧ Below w.heap.size w w' := by
  go_enter Tryz.func96, Tryz.ntmps96
  go_wp2
  go_ret
  refine ⟨⟨_, rfl, some ⟨w.heap.size, 0, none⟩, 1, by rw [grp_one]; rfl, ?_, by rw [grp_one]; simp, by omega, fun e => by cases e⟩, (Below.refl _ _).alloc (Nat.le_refl _) _⟩
  rw [grp_one]
  refine .inr ⟨_, rfl, by simp, ?_⟩
  intro j hj
  have : j = 0 := by simpa using hj
  subst this
  simp [go_sem]
end Go.Proofs.YtbenflnpnohcjaaGreatDoor
