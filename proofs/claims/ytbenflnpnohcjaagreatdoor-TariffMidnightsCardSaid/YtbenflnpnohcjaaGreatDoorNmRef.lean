/- Plain law of the reference's digits (base 10). -/
import Derived.Test.YtbenflnpnohcjaaGreatDoorNmStr
import Derived.Test.YtbenflnpnohcjaaGreatDoorNmDiv
namespace Go.Proofs.YtbenflnpnohcjaaGreatDoor.Nm

theorem grp_at {b : Nat} (hb : 2 ≤ b) : ∀ (k N : Nat), (grp b N).getD k 0 = ((N / b ^ k % b : Nat) : Int)
  | 0, N => by
    by_cases h : N = 0
    · subst h; rw [grp_zero]; simp
    · rw [grp_pos hb (by omega)]; simp
  | k + 1, N => by
    by_cases h : N = 0
    · subst h; rw [grp_zero]; simp
    · rw [grp_pos hb (by omega), List.getD_cons_succ, grp_at hb k, Nat.div_div_eq_div_mul, Nat.pow_succ, Nat.mul_comm b]
theorem grp_lt_iff {b : Nat} (hb : 2 ≤ b) (N k : Nat) : k < (grp b N).length ↔ N / b ^ k ≠ 0 := by
  induction k generalizing N with
  | zero =>
    by_cases h : N = 0
    · subst h; rw [grp_zero]; simp
    · rw [grp_pos hb (by omega)]; simp [h]
  | succ k ih =>
    by_cases h : N = 0
    · subst h; rw [grp_zero]; simp
    · rw [grp_pos hb (by omega), List.length_cons, Nat.add_lt_add_iff_right, ih, Nat.div_div_eq_div_mul, Nat.pow_succ, Nat.mul_comm b]
theorem grp_end {b : Nat} (hb : 2 ≤ b) (N : Nat) : N / b ^ (grp b N).length = 0 := by
  by_cases h : N / b ^ (grp b N).length = 0
  · exact h
  · have := (grp_lt_iff hb N _).2 h; omega
theorem nDigits_grp {N : Nat} (h : N ≠ 0) : Lib.nDigits N = (grp 10 N).length := by
  have h1 : (grp 10 N).length ≠ 0 := by
    have := (grp_lt_iff (b := 10) (by omega) N 0).2 (by simpa using h)
    omega
  obtain ⟨k, hk⟩ : ∃ k, (grp 10 N).length = k + 1 := ⟨(grp 10 N).length - 1, by omega⟩
  rw [hk]
  apply Lib.nDigits_unique
  · have := (grp_lt_iff (b := 10) (by omega) N k).1 (by omega)
    by_cases hc : 10 ^ k ≤ N
    · exact hc
    · exact absurd (Nat.div_eq_of_lt (by omega)) this
  · have := grp_end (b := 10) (by omega) N
    rw [hk] at this
    by_cases hc : N < 10 ^ (k + 1)
    · exact hc
    · have h3 := Nat.div_pos (show 10 ^ (k + 1) ≤ N by omega) (Nat.pow_pos (by omega))
      omega

/-! Subtraction, digit for digit. -/

structure MiOk (M N k : Nat) (xs : List Int) (c : Int) : Prop where
  len : xs.length = k
  inr : InR 10 xs
  cr : c = 0 ∨ c = 1
  val : gv 10 xs + ((10 : Nat) : Int) ^ k * (((M / 10 ^ k : Nat) : Int) - ((N / 10 ^ k : Nat) : Int) - c) = (M : Int) - N
theorem MiOk.zero (M N : Nat) : MiOk M N 0 [] 0 := ⟨rfl, InR.nil _, .inl rfl, by simp [gv]⟩
theorem MiOk.step {M N k : Nat} {xs : List Int} {c n c' : Int} (h : MiOk M N k xs c) (hn : n = ((M / 10 ^ k % 10 : Nat) : Int) - c - ((N / 10 ^ k % 10 : Nat) : Int) + 10 * c') (h0 : 0 ≤ n ∧ n < 10) (hc : c' = 0 ∨ c' = 1) : MiOk M N (k + 1) (xs ++ [n]) c' := by
  refine ⟨by simp [h.len], h.inr.append (InR.cons h0.1 h0.2 (InR.nil _)), hc, ?_⟩
  have hv := h.val
  rw [← hv, gv_snoc, h.len, Int.pow_succ, Int.mul_assoc, Int.add_assoc, ← Int.mul_add]
  congr 2
  have e1 : M / 10 ^ (k + 1) = M / 10 ^ k / 10 := by rw [Nat.pow_succ, Nat.div_div_eq_div_mul]
  have e2 : N / 10 ^ (k + 1) = N / 10 ^ k / 10 := by rw [Nat.pow_succ, Nat.div_div_eq_div_mul]
  rw [e1, e2, hn]
  generalize M / 10 ^ k = m
  generalize N / 10 ^ k = p
  have e3 : ((10 : Nat) : Int) = 10 := rfl
  rw [e3]
  omega
theorem MiOk.done {M N : Nat} (hNM : N ≤ M) {xs : List Int} {c : Int} (h : MiOk M N (grp 10 M).length xs c) : trim xs = grp 10 (M - N) := by
  have hv := h.val
  have e1 := grp_end (b := 10) (by omega) M
  have e2 : N / 10 ^ (grp 10 M).length = 0 := Nat.eq_zero_of_le_zero (Nat.le_trans (Nat.div_le_div_right hNM) (Nat.le_of_eq e1))
  rw [e1, e2] at hv
  have hl := gv_lt (b := 10) (by omega) h.inr
  rw [h.len] at hl
  rw [trim_eq (b := 10) (by omega) h.inr]
  congr 1
  rcases h.cr with rfl | rfl
  · simp at hv
    omega
  · simp at hv
    simp at hl
    omega

/-! The text, digit for digit. -/

def tq (N k : Nat) : List UInt8 := if N / 10 ^ k = 0 then [] else Lib.decDigits (N / 10 ^ k)
theorem tq_step {N k : Nat} (h : k < (grp 10 N).length) : tq N k = tq N (k + 1) ++ [UInt8.ofNat (48 + N / 10 ^ k % 10)] := by
  have h1 := (grp_lt_iff (b := 10) (by omega) N k).1 h
  have e1 : N / 10 ^ (k + 1) = N / 10 ^ k / 10 := by rw [Nat.pow_succ, Nat.div_div_eq_div_mul]
  unfold tq
  rw [if_neg h1, e1]
  generalize N / 10 ^ k = m at *
  by_cases h2 : m / 10 = 0
  · rw [if_pos h2, Lib.decDigits_one (by omega), show m % 10 = m by omega]; rfl
  · rw [if_neg h2, dec_step (by omega)]
theorem tq_end (N : Nat) : tq N (grp 10 N).length = [] := by
  unfold tq
  rw [if_pos (grp_end (by omega) N)]
theorem tq_all {N : Nat} (h : N ≠ 0) : tq N 0 = Lib.decDigits N := by unfold tq; simp [h]

/-! The digits of a text, from its end on. -/

theorem dec_at {N : Nat} (h : N ≠ 0) (k : Nat) (hk : k < (grp 10 N).length) : (Lib.decDigits N)[(grp 10 N).length - 1 - k]? = some (UInt8.ofNat (48 + N / 10 ^ k % 10)) := by
  rw [Lib.decDigits_eq, nDigits_grp h]
  rw [List.getElem?_map, List.getElem?_range (by omega)]
  simp only [Option.map_some]
  congr 1
  rw [show (grp 10 N).length - 1 - ((grp 10 N).length - 1 - k) = k by omega]
  rfl
theorem grp_take_snoc {N k : Nat} (hk : k < (grp 10 N).length) : (grp 10 N).take (k + 1) = (grp 10 N).take k ++ [((N / 10 ^ k % 10 : Nat) : Int)] := by
  have h1 := grp_at (b := 10) (by omega) k N
  rw [List.getD_eq_getElem?_getD, List.getElem?_eq_getElem hk, Option.getD_some] at h1
  rw [List.take_add_one, List.getElem?_eq_getElem hk, h1]
  rfl
end Go.Proofs.YtbenflnpnohcjaaGreatDoor.Nm
