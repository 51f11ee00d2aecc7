/- Plain law of the carries: what number.plus, minus, by, times make of lists of groups. -/
import Derived.Test.YtbenflnpnohcjaaGreatDoorNmPlain
namespace Go.Proofs.YtbenflnpnohcjaaGreatDoor.Nm

def cy (d : Nat → Int) : Nat → Int
  | 0 => 0
  | k + 1 => (d k + cy d k) / 10000
def dg (d : Nat → Int) (k : Nat) : Int := (d k + cy d k) % 10000
def digs (d : Nat → Int) : Nat → List Int
  | 0 => []
  | k + 1 => digs d k ++ [dg d k]
def outL (d : Nat → Int) (n : Nat) : List Int := digs d n ++ (if cy d n = 0 then [] else [cy d n])
def sumD (d : Nat → Int) : Nat → Int
  | 0 => 0
  | k + 1 => sumD d k + ((10000 ^ k : Nat) : Int) * d k

theorem digs_length (d : Nat → Int) : ∀ n, (digs d n).length = n
  | 0 => rfl
  | n + 1 => by simp [digs, digs_length d n]
theorem inR_digs (d : Nat → Int) : ∀ n, InR 10000 (digs d n)
  | 0 => InR.nil _
  | n + 1 => InR.append (inR_digs d n) (InR.cons (by unfold dg; omega) (by unfold dg; omega) (InR.nil _))
theorem digs_gv (d : Nat → Int) : ∀ n, gv 10000 (digs d n) + ((10000 ^ n : Nat) : Int) * cy d n = sumD d n
  | 0 => by simp [digs, cy, sumD, gv]
  | n + 1 => by
    have ih := digs_gv d n
    have e1 : gv 10000 (digs d (n + 1)) = gv 10000 (digs d n) + ((10000 ^ n : Nat) : Int) * dg d n := by
      have := gv_snoc 10000 (digs d n) (dg d n)
      rw [digs_length] at this
      simpa [digs] using this
    have e2 : ((10000 ^ (n + 1) : Nat) : Int) = ((10000 ^ n : Nat) : Int) * 10000 := by
      rw [Nat.pow_succ, Int.natCast_mul]; rfl
    have e3 : (10000 : Int) * cy d (n + 1) + dg d n = d n + cy d n := by simp only [cy, dg]; omega
    rw [e1, e2]
    simp only [sumD]
    rw [← ih, Int.add_assoc, Int.add_assoc, Int.mul_assoc, ← Int.mul_add, ← Int.mul_add, Int.add_comm (dg d n), e3, Int.add_comm (d n)]
theorem cy_range {d : Nat → Int} (hd : ∀ i, -9999 ≤ d i ∧ d i ≤ 99980001) : ∀ k, -1 ≤ cy d k ∧ cy d k ≤ 9999
  | 0 => by simp [cy]
  | k + 1 => by
    have h1 := hd k
    have h2 := cy_range hd k
    simp only [cy]; omega
theorem digs_lt (d : Nat → Int) (n : Nat) : 0 ≤ gv 10000 (digs d n) ∧ gv 10000 (digs d n) < ((10000 ^ n : Nat) : Int) := by
  refine ⟨gv_nonneg (inR_digs d n), ?_⟩
  have := gv_lt (b := 10000) (by omega) (inR_digs d n)
  rw [digs_length] at this
  exact_mod_cast this
theorem cy_nonneg {d : Nat → Int} {n : Nat} (h : 0 ≤ sumD d n) : 0 ≤ cy d n := by
  have h1 := digs_gv d n
  have h2 := digs_lt d n
  have hp : (0 : Int) < ((10000 ^ n : Nat) : Int) := by have : 0 < 10000 ^ n := Nat.pow_pos (by omega); omega
  by_cases c : 0 ≤ cy d n
  · exact c
  · exfalso
    have : ((10000 ^ n : Nat) : Int) * cy d n ≤ ((10000 ^ n : Nat) : Int) * (-1) := Int.mul_le_mul_of_nonneg_left (by omega) (by omega)
    omega
theorem cy_zero {d : Nat → Int} {n : Nat} (h0 : 0 ≤ sumD d n) (h : sumD d n < ((10000 ^ n : Nat) : Int)) : cy d n = 0 := by
  have h1 := digs_gv d n
  have h2 := digs_lt d n
  have h3 := cy_nonneg h0
  have hp : (0 : Int) < ((10000 ^ n : Nat) : Int) := by have : 0 < 10000 ^ n := Nat.pow_pos (by omega); omega
  by_cases c : cy d n = 0
  · exact c
  · exfalso
    have : ((10000 ^ n : Nat) : Int) * 1 ≤ ((10000 ^ n : Nat) : Int) * cy d n := Int.mul_le_mul_of_nonneg_left (by omega) (by omega)
    omega
theorem inR_outL {d : Nat → Int} {n : Nat} (h0 : 0 ≤ cy d n) (h1 : cy d n ≤ 9999) : InR 10000 (outL d n) := by
  unfold outL
  split
  · simpa using inR_digs d n
  · exact InR.append (inR_digs d n) (InR.cons h0 (by omega) (InR.nil _))
theorem outL_gv (d : Nat → Int) (n : Nat) : gv 10000 (outL d n) = sumD d n := by
  have h1 := digs_gv d n
  unfold outL
  split
  · rename_i h; rw [h] at h1; simpa using h1
  · have := gv_snoc 10000 (digs d n) (cy d n)
    rw [digs_length] at this
    rw [this, ← h1, Int.natCast_pow]
theorem trim_outL {d : Nat → Int} {n : Nat} (hd : ∀ i, -9999 ≤ d i ∧ d i ≤ 99980001) (h : 0 ≤ sumD d n) : trim (outL d n) = grp 10000 (sumD d n).toNat := by
  rw [trim_eq (by omega) (inR_outL (cy_nonneg h) (cy_range hd n).2), outL_gv]

theorem sumD_congr {d e : Nat → Int} : ∀ {n : Nat}, (∀ i, i < n → d i = e i) → sumD d n = sumD e n
  | 0, _ => rfl
  | n + 1, h => by simp only [sumD]; rw [sumD_congr (fun i hi => h i (by omega)), h n (by omega)]
theorem sumD_add (d e : Nat → Int) : ∀ n, sumD (fun i => d i + e i) n = sumD d n + sumD e n
  | 0 => rfl
  | n + 1 => by simp only [sumD]; rw [sumD_add d e n, Int.mul_add]; omega
theorem sumD_sub (d e : Nat → Int) : ∀ n, sumD (fun i => d i - e i) n = sumD d n - sumD e n
  | 0 => rfl
  | n + 1 => by simp only [sumD]; rw [sumD_sub d e n, Int.mul_sub]; omega
theorem sumD_mul (d : Nat → Int) (k : Int) : ∀ n, sumD (fun i => d i * k) n = sumD d n * k
  | 0 => by simp [sumD]
  | n + 1 => by simp only [sumD]; rw [sumD_mul d k n, Int.add_mul, Int.mul_assoc]
theorem sumD_zero : ∀ n, sumD (fun _ => 0) n = 0
  | 0 => rfl
  | n + 1 => by simp only [sumD]; rw [sumD_zero n]; simp
theorem sumD_cons (d : Nat → Int) : ∀ n, sumD d (n + 1) = d 0 + 10000 * sumD (fun i => d (i + 1)) n
  | 0 => by
    simp only [sumD, Nat.pow_zero]; omega
  | n + 1 => by
    have ih := sumD_cons d n
    rw [sumD, ih, sumD, Int.mul_add, Nat.pow_succ, ← Int.mul_assoc]
    rw [show ((10000 ^ n * 10000 : Nat) : Int) = 10000 * ((10000 ^ n : Nat) : Int) by rw [Int.natCast_mul, Int.mul_comm]; rfl]
    omega
theorem sumD_list : ∀ (l : List Int) (n : Nat), l.length ≤ n → sumD (fun i => l.getD i 0) n = gv 10000 l
  | [], n, _ => by simp only [List.getD_nil]; rw [sumD_zero]; rfl
  | x :: l, 0, h => by simp at h
  | x :: l, n + 1, h => by
    rw [sumD_cons]
    have := sumD_list l n (by simpa using h)
    simp only [List.getD_cons_succ, List.getD_cons_zero]
    rw [this]
    rfl

theorem getD_inR {b : Nat} {l : List Int} (h : InR b l) (i : Nat) : 0 ≤ l.getD i 0 ∧ (l.getD i 0 < b ∨ l.getD i 0 = 0) := by
  by_cases hi : i < l.length
  · rw [List.getD_eq_getElem?_getD, List.getElem?_eq_getElem hi, Option.getD_some]
    have := h l[i] (List.getElem_mem hi)
    omega
  · rw [List.getD_eq_getElem?_getD, List.getElem?_eq_none (by omega), Option.getD_none]; omega

/-! ### The three uses -/
theorem plus_grp (m n : Nat) : trim (outL (fun i => (grp 10000 m).getD i 0 + (grp 10000 n).getD i 0) (max (grp 10000 m).length (grp 10000 n).length)) = grp 10000 (m + n) := by
  have hs : sumD (fun i => (grp 10000 m).getD i 0 + (grp 10000 n).getD i 0) (max (grp 10000 m).length (grp 10000 n).length) = (m + n : Nat) := by
    rw [sumD_add, sumD_list _ _ (by omega), sumD_list _ _ (by omega), gv_grp (by omega), gv_grp (by omega)]; push_cast; rfl
  rw [trim_outL (fun i => ?_) (by rw [hs]; omega), hs, Int.toNat_natCast]
  have h1 := getD_inR (inR_grp (b := 10000) (by omega) m) i
  have h2 := getD_inR (inR_grp (b := 10000) (by omega) n) i
  omega
theorem minus_grp {m n : Nat} (h : n ≤ m) : trim (outL (fun i => (grp 10000 m).getD i 0 - (grp 10000 n).getD i 0) (grp 10000 m).length) = grp 10000 (m - n) ∧ cy (fun i => (grp 10000 m).getD i 0 - (grp 10000 n).getD i 0) (grp 10000 m).length = 0 := by
  have hl : (grp 10000 n).length ≤ (grp 10000 m).length := by
    by_cases c : (grp 10000 m).length < (grp 10000 n).length
    · have := grp_length_lt (b := 10000) (by omega) c; omega
    · omega
  have hs : sumD (fun i => (grp 10000 m).getD i 0 - (grp 10000 n).getD i 0) (grp 10000 m).length = (m - n : Nat) := by
    rw [sumD_sub, sumD_list _ _ (by omega), sumD_list _ _ (by omega), gv_grp (by omega), gv_grp (by omega)]; omega
  refine ⟨?_, ?_⟩
  · rw [trim_outL (fun i => ?_) (by rw [hs]; omega), hs, Int.toNat_natCast]
    have h1 := getD_inR (inR_grp (b := 10000) (by omega) m) i
    have h2 := getD_inR (inR_grp (b := 10000) (by omega) n) i
    omega
  · refine cy_zero (by rw [hs]; omega) ?_
    rw [hs]
    have := lt_pow_length (b := 10000) (by omega) m
    omega
theorem by_grp (m k : Nat) (hk : k ≤ 9999) : trim (outL (fun i => (grp 10000 m).getD i 0 * (k : Int)) (grp 10000 m).length) = grp 10000 (m * k) := by
  have hs : sumD (fun i => (grp 10000 m).getD i 0 * (k : Int)) (grp 10000 m).length = (m * k : Nat) := by
    rw [sumD_mul, sumD_list _ _ (by omega), gv_grp (by omega)]; push_cast; rfl
  rw [trim_outL (fun i => ?_) (by rw [hs]; omega), hs, Int.toNat_natCast]
  have h1 := getD_inR (inR_grp (b := 10000) (by omega) m) i
  have h2 : 0 ≤ (grp 10000 m).getD i 0 ∧ (grp 10000 m).getD i 0 ≤ 9999 := by omega
  have h3 : (grp 10000 m).getD i 0 * (k : Int) ≤ 9999 * 9999 := Int.mul_le_mul h2.2 (by omega) (by omega) (by omega)
  have h4 : 0 ≤ (grp 10000 m).getD i 0 * (k : Int) := Int.mul_nonneg h2.1 (by omega)
  omega
end Go.Proofs.YtbenflnpnohcjaaGreatDoor.Nm
