/- Plain law: which texts are integers. -/
import Derived.Test.YtbenflnpnohcjaaGreatDoorNmTxt
import Derived.Lib.SlTrimSet
import Derived.Lib.Strings
namespace Go.Proofs.YtbenflnpnohcjaaGreatDoor.Nm

/-- The text of an integer. -/
def Tx (z : Int) : ByteArray := ⟨(Lib.itoa z).toArray⟩
/-- The least number that has too many digits. -/
def lim : Nat := 10 ^ 200
/-- A text is that of an integer of at most 200 digits. -/
def IsI (s : ByteArray) (z : Int) : Prop := s = Tx z ∧ z.natAbs < lim
def dset : List UInt8 := [48, 49, 50, 51, 52, 53, 54, 55, 56, 57]
theorem dset_iff (b : UInt8) : dset.contains b = true ↔ 48 ≤ b.toNat ∧ b.toNat ≤ 57 := by
  constructor
  · intro h
    have h1 : b ∈ dset := by simpa using h
    simp only [dset, List.mem_cons, List.not_mem_nil, or_false] at h1
    rcases h1 with rfl | rfl | rfl | rfl | rfl | rfl | rfl | rfl | rfl | rfl <;> decide
  · intro h
    have hb : b = UInt8.ofNat b.toNat := UInt8.ofNat_toNat.symm
    generalize b.toNat = n at *
    subst hb
    have h2 : n = 48 ∨ n = 49 ∨ n = 50 ∨ n = 51 ∨ n = 52 ∨ n = 53 ∨ n = 54 ∨ n = 55 ∨ n = 56 ∨ n = 57 := by omega
    rcases h2 with rfl | rfl | rfl | rfl | rfl | rfl | rfl | rfl | rfl | rfl <;> decide
theorem dropWhile_nil {α : Type} (p : α → Bool) : ∀ (l : List α), l.dropWhile p = [] ↔ ∀ x ∈ l, p x = true
  | [] => by simp
  | a :: l => by
    by_cases h : p a = true
    · rw [List.dropWhile_cons_of_pos h, dropWhile_nil p l]; simp [h]
    · rw [List.dropWhile_cons_of_neg h]; simp [h]
theorem mem_parts {α : Type} (p : α → Bool) : ∀ (l : List α) (x : α), x ∈ l → p x = true ∨ x ∈ l.dropWhile p
  | [], x, h => by simp at h
  | a :: l, x, h => by
    by_cases h1 : p a = true
    · rw [List.dropWhile_cons_of_pos h1]
      rcases List.mem_cons.1 h with rfl | h
      · exact .inl h1
      · exact mem_parts p l x h
    · rw [List.dropWhile_cons_of_neg h1]; exact .inr h
theorem trimS_nil (l : List UInt8) : Lib.trimS l dset = [] ↔ IsDig l := by
  unfold Lib.trimS Lib.trimLeftS Lib.trimRightS
  rw [dropWhile_nil]
  constructor
  · intro h b hb
    rw [← dset_iff]
    rcases mem_parts (dset.contains ·) l.reverse b (by simpa using hb) with h1 | h1
    · exact h1
    · exact h b (by simpa using h1)
  · intro h b hb
    have h1 : (l.reverse.dropWhile (dset.contains ·)) = [] := (dropWhile_nil _ _).2 fun x hx => (dset_iff x).2 (h x (by simpa using hx))
    rw [h1] at hb
    simp at hb

theorem trimP_neg (l : List UInt8) : Lib.trimPrefix (45 :: l) [45] = l := by simp [Lib.trimPrefix, Lib.hasPrefix]
theorem trimP_pos {l : List UInt8} (h : l.head? ≠ some 45) : Lib.trimPrefix l [45] = l := by
  unfold Lib.trimPrefix Lib.hasPrefix
  rw [if_neg]
  intro h1
  cases l with
  | nil => simp at h1
  | cons a l =>
    simp at h1 h
    exact h h1.symm
theorem itoa_neg {z : Int} (h : z < 0) : Lib.itoa z = 45 :: Lib.decDigits z.natAbs := by rw [Lib.itoa, if_pos h]
theorem itoa_pos {z : Int} (h : 0 ≤ z) : Lib.itoa z = Lib.decDigits z.natAbs := by
  rw [Lib.itoa, if_neg (by omega)]; congr 1; omega
theorem dec_head45 (u : Nat) : (Lib.decDigits u).head? ≠ some 45 := by
  intro h
  have := dec_isDig u 45 (List.mem_of_mem_head? h)
  revert this
  decide
theorem tx_list (z : Int) : (Tx z).data.toList = Lib.itoa z := rfl
theorem tx_trim (z : Int) : Lib.trimPrefix (Tx z).data.toList [45] = Lib.decDigits z.natAbs := by
  rw [tx_list]
  by_cases h : z < 0
  · rw [itoa_neg h, trimP_neg]
  · rw [itoa_pos (by omega), trimP_pos (dec_head45 _)]
theorem tx_len (z : Int) : ((Lib.decDigits z.natAbs).length < (Lib.itoa z).length) ↔ z < 0 := by
  by_cases h : z < 0
  · rw [itoa_neg h]; simp [h]
  · rw [itoa_pos (by omega)]; simp; omega
theorem ba_ext {s t : ByteArray} (h : s.data.toList = t.data.toList) : s = t := by
  cases s; cases t; congr 1; exact Array.toList_inj.1 h
theorem tx_inj {a b : Int} (h : Tx a = Tx b) : a = b := by
  have h1 : Lib.trimPrefix (Tx a).data.toList [45] = Lib.trimPrefix (Tx b).data.toList [45] := by rw [h]
  rw [tx_trim, tx_trim] at h1
  have h2 := dec_inj h1
  have h3 : (Lib.itoa a).length = (Lib.itoa b).length := by rw [← tx_list, ← tx_list, h]
  have h4 := tx_len a
  have h5 := tx_len b
  rw [h2, h3] at h4
  have : a < 0 ↔ b < 0 := h4.symm.trans h5
  omega
theorem tx_iff {a b : Int} : Tx a = Tx b ↔ a = b := ⟨tx_inj, fun h => by rw [h]⟩
theorem nDigits_le (u k : Nat) (hk : 0 < k) : Lib.nDigits u ≤ k ↔ u < 10 ^ k := by
  constructor
  · intro h
    exact Nat.lt_of_lt_of_le (Lib.lt_pow_nDigits u) (Nat.pow_le_pow_right (by omega) h)
  · intro h
    induction k generalizing u with
    | zero => omega
    | succ k ih =>
      by_cases h1 : u < 10
      · rw [Lib.nDigits_small h1]; omega
      · rw [Lib.nDigits_big h1]
        rcases Nat.eq_zero_or_pos k with rfl | hk
        · simp at h; omega
        · have := ih (u / 10) hk (by rw [Nat.pow_succ] at h; omega)
          omega
theorem dec_len_le (u : Nat) : (Lib.decDigits u).length ≤ 200 ↔ u < lim := by
  unfold lim
  rw [Lib.decDigits_length]; exact nDigits_le u 200 (by omega)

/-- Exactly the texts that isValid lets pass are texts of integers. -/
theorem valid_iff (s : ByteArray) : (Lib.trimPrefix s.data.toList [45] ≠ [] ∧ (Lib.trimPrefix s.data.toList [45]).length ≤ 200 ∧ IsDig (Lib.trimPrefix s.data.toList [45]) ∧ (s.data.toList = [48] ∨ (Lib.trimPrefix s.data.toList [45]).head? ≠ some 48)) ↔ ∃ z, IsI s z := by
  constructor
  · rintro ⟨h1, h2, h3, h4⟩
    by_cases hs : s.data.toList.head? = some 45
    · obtain ⟨l, hl⟩ : ∃ l, s.data.toList = 45 :: l := by
        cases h : s.data.toList with
        | nil => rw [h] at hs; simp at hs
        | cons a l => rw [h] at hs; simp at hs; exact ⟨l, by rw [hs]⟩
      rw [hl, trimP_neg] at h1 h2 h3 h4
      have h5 : ∀ b, l.head? = some b → b ≠ 48 := by
        intro b hb hc
        subst hc
        rcases h4 with h4 | h4
        · have := congrArg List.head? h4; simp at this
        · exact h4 hb
      have h6 := dec_of_dv _ rfl h3 h1 (.inr h5)
      have h7 : dv 0 l ≠ 0 := by
        intro hz
        rw [hz] at h6
        rw [← h6] at h5
        exact h5 48 (by rw [Lib.decDigits_one (by decide)]; rfl) rfl
      refine ⟨-(dv 0 l : Int), ba_ext ?_, ?_⟩
      · rw [tx_list, hl, itoa_neg (by omega), Int.natAbs_neg, Int.natAbs_natCast, h6]
      · rw [Int.natAbs_neg, Int.natAbs_natCast]
        exact Nat.lt_of_lt_of_le (dv_lt h3) (Nat.pow_le_pow_right (by omega) h2)
    · rw [trimP_pos hs] at h1 h2 h3 h4
      have h6 := dec_of_dv _ rfl h3 h1 (by
        rcases h4 with h4 | h4
        · exact .inl h4
        · exact .inr fun b hb hc => h4 (by rw [hb, hc]))
      refine ⟨(dv 0 s.data.toList : Int), ba_ext ?_, ?_⟩
      · rw [tx_list, itoa_pos (by omega), Int.natAbs_natCast, h6]
      · rw [Int.natAbs_natCast]
        exact Nat.lt_of_lt_of_le (dv_lt h3) (Nat.pow_le_pow_right (by omega) h2)
  · rintro ⟨z, rfl, hz⟩
    rw [tx_trim]
    refine ⟨dec_ne _, (dec_len_le _).2 hz, dec_isDig _, ?_⟩
    by_cases h : z = 0
    · subst h; left; rw [tx_list, itoa_pos (by omega)]; exact Lib.decDigits_one (by decide)
    · right
      intro h1
      exact dec_head _ (by omega) _ h1 rfl

/-- What the text of a number with a sign is. -/
def sg (neg : Bool) (n : Nat) : Int := if neg then -(n : Int) else n
theorem sg_abs (neg : Bool) (n : Nat) : (sg neg n).natAbs = n := by cases neg <;> simp [sg]
theorem sg_of (z : Int) : sg (decide (z < 0)) z.natAbs = z := by
  by_cases h : z < 0
  · simp [sg, h]; omega
  · simp [sg, h]; omega
theorem itoa_sg_neg {n : Nat} (h : n ≠ 0) : Lib.itoa (sg true n) = 45 :: Lib.decDigits n := by
  have : sg true n = -(n : Int) := rfl
  rw [itoa_neg (by omega), sg_abs]
theorem itoa_sg_pos (n : Nat) : Lib.itoa (sg false n) = Lib.decDigits n := by
  have : sg false n = (n : Int) := rfl
  rw [itoa_pos (by omega), sg_abs]
theorem tx_zero (neg : Bool) : Tx (sg neg 0) = ⟨#[48]⟩ := by
  apply ba_ext
  cases neg
  · rw [tx_list, itoa_sg_pos]; exact Lib.decDigits_one (by decide)
  · rw [tx_list]; exact Lib.decDigits_one (by decide)
end Go.Proofs.YtbenflnpnohcjaaGreatDoor.Nm
