/- Plain facts about numbers as lists of digits in a base, the lowest one first; without any program. -/
import Derived.KernelRfl
namespace Go.Proofs.YtbenflnpnohcjaaGreatDoor.Nm

/-- The digits of n in base b, the lowest one first, without zeros at the end. -/
def grp (b n : Nat) : List Int := if _h : n = 0 ∨ b < 2 then [] else ((n % b : Nat) : Int) :: grp b (n / b)
termination_by n
decreasing_by exact Nat.div_lt_self (by omega) (by omega)

theorem grp_zero (b : Nat) : grp b 0 = [] := by rw [grp]; simp
theorem grp_pos {b n : Nat} (hb : 2 ≤ b) (hn : 0 < n) : grp b n = ((n % b : Nat) : Int) :: grp b (n / b) := by rw [grp, dif_neg (by omega)]

/-- The value of a list of digits. -/
def gv (b : Nat) : List Int → Int
  | [] => 0
  | x :: xs => x + b * gv b xs
def InR (b : Nat) (l : List Int) : Prop := ∀ x ∈ l, 0 ≤ x ∧ x < b

theorem InR.tail {b : Nat} {x : Int} {l : List Int} (h : InR b (x :: l)) : InR b l := fun y hy => h y (by simp [hy])
theorem InR.head {b : Nat} {x : Int} {l : List Int} (h : InR b (x :: l)) : 0 ≤ x ∧ x < b := h x (by simp)
theorem InR.nil (b : Nat) : InR b [] := fun x hx => by simp at hx
theorem InR.cons {b : Nat} {x : Int} {l : List Int} (h0 : 0 ≤ x) (h1 : x < b) (h : InR b l) : InR b (x :: l) := fun y hy => by
  rcases List.mem_cons.1 hy with rfl | hy
  · exact ⟨h0, h1⟩
  · exact h y hy
theorem InR.append {b : Nat} {l m : List Int} (h : InR b l) (k : InR b m) : InR b (l ++ m) := fun y hy => by
  rcases List.mem_append.1 hy with hy | hy
  · exact h y hy
  · exact k y hy

theorem gv_nonneg {b : Nat} : ∀ {l : List Int}, InR b l → 0 ≤ gv b l
  | [], _ => by simp [gv]
  | x :: l, h => by
    have h1 := gv_nonneg h.tail
    have h2 := h.head
    have h3 : 0 ≤ (b : Int) * gv b l := Int.mul_nonneg (by omega) h1
    simp only [gv]; omega

theorem gv_append (b : Nat) : ∀ (l m : List Int), gv b (l ++ m) = gv b l + b ^ l.length * gv b m
  | [], m => by simp [gv]
  | x :: l, m => by
    simp only [List.cons_append, gv, gv_append b l m, List.length_cons, Int.pow_succ, Int.mul_add]
    rw [← Int.mul_assoc, Int.mul_comm (b : Int) ((b : Int) ^ l.length)]
    omega

theorem gv_snoc (b : Nat) (l : List Int) (x : Int) : gv b (l ++ [x]) = gv b l + b ^ l.length * x := by
  rw [gv_append]; simp [gv]

theorem gv_zeros (b : Nat) : ∀ k : Nat, gv b (List.replicate k 0) = 0
  | 0 => rfl
  | k + 1 => by simp only [List.replicate_succ, gv, gv_zeros b k]; simp

theorem gv_lt {b : Nat} (hb : 0 < b) : ∀ {l : List Int}, InR b l → gv b l < b ^ l.length
  | [], _ => by simp [gv]
  | x :: l, h => by
    have h1 := gv_lt hb h.tail
    have h2 := h.head
    simp only [gv, List.length_cons, Int.pow_succ]
    have h3 : (b : Int) * gv b l ≤ b * (b ^ l.length - 1) := Int.mul_le_mul_of_nonneg_left (by omega) (by omega)
    rw [Int.mul_sub, Int.mul_one] at h3
    rw [Int.mul_comm ((b : Int) ^ l.length)]
    omega

theorem inR_grp {b : Nat} (hb : 2 ≤ b) (n : Nat) : InR b (grp b n) := by
  induction n using Nat.strongRecOn with
  | _ n ih =>
    by_cases h : n = 0
    · subst h; rw [grp_zero]; exact InR.nil b
    · rw [grp_pos hb (by omega)]
      have := Nat.mod_lt n (show 0 < b by omega)
      exact InR.cons (by omega) (by omega) (ih _ (Nat.div_lt_self (by omega) (by omega)))

theorem gv_grp {b : Nat} (hb : 2 ≤ b) (n : Nat) : gv b (grp b n) = n := by
  induction n using Nat.strongRecOn with
  | _ n ih =>
    by_cases h : n = 0
    · subst h; rw [grp_zero]; rfl
    · rw [grp_pos hb (by omega)]
      simp only [gv]
      rw [ih _ (Nat.div_lt_self (by omega) (by omega))]
      have := Nat.mod_add_div n b
      rw [← Int.natCast_mul]
      omega

/-- Zeros at the end left out. -/
def trim : List Int → List Int
  | [] => []
  | x :: l => if trim l = [] ∧ x = 0 then [] else x :: trim l

theorem trim_snoc_zero : ∀ l : List Int, trim (l ++ [0]) = trim l
  | [] => by simp [trim]
  | x :: l => by simp only [List.cons_append, trim, trim_snoc_zero l]
theorem trim_snoc {x : Int} (hx : x ≠ 0) : ∀ l : List Int, trim (l ++ [x]) = l ++ [x]
  | [] => by simp [trim, hx]
  | y :: l => by
    simp only [List.cons_append, trim, trim_snoc hx l]
    rw [if_neg (by simp)]

theorem gv_cons_toNat {b : Nat} {x : Int} {l : List Int} (h : InR b (x :: l)) : (gv b (x :: l)).toNat % b = x.toNat ∧ (gv b (x :: l)).toNat / b = (gv b l).toNat := by
  have h0 := h.head
  have h1 := gv_nonneg h.tail
  have e : (gv b (x :: l)).toNat = x.toNat + b * (gv b l).toNat := by
    simp only [gv]
    have h3 : 0 ≤ (b : Int) * gv b l := Int.mul_nonneg (by omega) h1
    have h4 : ((b : Int) * gv b l).toNat = b * (gv b l).toNat := by
      rw [Int.toNat_mul (by omega) h1]; simp
    omega
  have hx : x.toNat < b := by omega
  rw [e]
  exact ⟨by rw [Nat.add_mul_mod_self_left, Nat.mod_eq_of_lt hx], by rw [Nat.add_mul_div_left _ _ (by omega), Nat.div_eq_of_lt hx]; omega⟩

/-- Digits without zeros at the end are those of their value. -/
theorem trim_eq {b : Nat} (hb : 2 ≤ b) : ∀ {l : List Int}, InR b l → trim l = grp b (gv b l).toNat
  | [], _ => by simp [trim, gv, grp_zero]
  | x :: l, h => by
    have ih := trim_eq hb h.tail
    have h0 := h.head
    have h1 := gv_nonneg h.tail
    obtain ⟨e1, e2⟩ := gv_cons_toNat h
    simp only [trim, ih]
    by_cases hz : (gv b (x :: l)).toNat = 0
    · have hm : x.toNat = 0 := by rw [hz] at e1; simp at e1; omega
      have hd : (gv b l).toNat = 0 := by rw [hz] at e2; simp at e2; omega
      rw [hz, hd, grp_zero, if_pos ⟨rfl, by omega⟩]
    · rw [grp_pos hb (show 0 < (gv b (x :: l)).toNat by omega), e1, e2, if_neg ?_]
      · have : ((x.toNat : Nat) : Int) = x := by omega
        rw [this]
      · rintro ⟨hl, hx⟩
        apply hz
        have hg : (gv b l).toNat = 0 := by
          by_cases hg : (gv b l).toNat = 0
          · exact hg
          · rw [grp_pos hb (by omega)] at hl; cases hl
        have : gv b l = 0 := by omega
        simp only [gv, this, hx]; simp

theorem trim_grp {b : Nat} (hb : 2 ≤ b) (n : Nat) : trim (grp b n) = grp b n := by
  rw [trim_eq hb (inR_grp hb n), gv_grp hb]; simp

theorem grp_of {b : Nat} (hb : 2 ≤ b) {l : List Int} (h : InR b l) (ht : trim l = l) : l = grp b (gv b l).toNat := by
  rw [← trim_eq hb h, ht]

theorem grp_nil_iff {b : Nat} (hb : 2 ≤ b) (n : Nat) : grp b n = [] ↔ n = 0 := by
  constructor
  · intro h
    by_cases hn : n = 0
    · exact hn
    · rw [grp_pos hb (by omega)] at h; cases h
  · rintro rfl; exact grp_zero b

theorem grp_length_zero {b : Nat} (hb : 2 ≤ b) (n : Nat) : (grp b n).length = 0 ↔ n = 0 := by
  rw [List.length_eq_zero_iff, grp_nil_iff hb]

/-- Where the length of the digits lies. -/
theorem grp_length_le {b : Nat} (hb : 2 ≤ b) : ∀ (k n : Nat), n < b ^ k → (grp b n).length ≤ k
  | 0, n, h => by
    have : n = 0 := by simp at h; omega
    subst this; simp [grp_zero]
  | k + 1, n, h => by
    by_cases hn : n = 0
    · subst hn; simp [grp_zero]
    · rw [grp_pos hb (by omega), List.length_cons]
      have : n / b < b ^ k := by
        rw [Nat.div_lt_iff_lt_mul (by omega)]
        rw [Nat.pow_succ] at h; exact h
      have := grp_length_le hb k _ this
      omega
theorem lt_pow_length {b : Nat} (hb : 2 ≤ b) (n : Nat) : n < b ^ (grp b n).length := by
  have h := gv_lt (show 0 < b by omega) (inR_grp hb n)
  rw [gv_grp hb] at h
  exact_mod_cast h
theorem pow_length_le {b : Nat} (hb : 2 ≤ b) {n : Nat} (hn : 0 < n) : b ^ ((grp b n).length - 1) ≤ n := by
  by_cases h : b ^ ((grp b n).length - 1) ≤ n
  · exact h
  · have h1 := grp_length_le hb _ n (Nat.lt_of_not_le h)
    have h2 : (grp b n).length ≠ 0 := by rw [Ne, grp_length_zero hb]; omega
    omega

theorem grp_length_lt {b : Nat} (hb : 2 ≤ b) {m n : Nat} (h : (grp b m).length < (grp b n).length) : m < n := by
  have h1 := lt_pow_length hb m
  by_cases hn : n = 0
  · subst hn; simp [grp_zero] at h
  · have h2 := pow_length_le hb (show 0 < n by omega)
    have h3 : b ^ (grp b m).length ≤ b ^ ((grp b n).length - 1) := Nat.pow_le_pow_right (by omega) (by omega)
    omega

/-- Two lists of digits of the same length that are equal from some place on, and differ there: the value goes by that place. -/
theorem gv_lt_of {b : Nat} (hb : 2 ≤ b) {p q s : List Int} {x y : Int} (hp : InR b p) (hq : InR b q) (hl : p.length = q.length) (hxy : x < y) : gv b (p ++ x :: s) < gv b (q ++ y :: s) := by
  rw [gv_append, gv_append, hl]
  simp only [gv]
  have h1 := gv_lt (show 0 < b by omega) hp
  have h2 := gv_nonneg hq
  rw [hl] at h1
  have h3 : (b : Int) ^ q.length * (x + 1 + b * gv b s) ≤ b ^ q.length * (y + b * gv b s) :=
    Int.mul_le_mul_of_nonneg_left (by omega) (Int.le_of_lt (Int.pow_pos (by omega)))
  have e : (b : Int) ^ q.length * (x + 1 + b * gv b s) = b ^ q.length * (x + b * gv b s) + b ^ q.length := by
    have : x + 1 + b * gv b s = (x + b * gv b s) + 1 := by omega
    rw [this, Int.mul_add, Int.mul_one]
  omega

/-- Comparing, as the program does it. -/
def sgn (a b : Int) : Int := if a < b then -1 else if b < a then 1 else 0
/-- From the top: the first place at which they differ. -/
def cmpFrom (l m : List Int) : Nat → Int
  | 0 => 0
  | k + 1 => if l.getD k 0 = m.getD k 0 then cmpFrom l m k else sgn (l.getD k 0) (m.getD k 0)
def cmpL (l m : List Int) : Int := if l.length = m.length then cmpFrom l m l.length else sgn l.length m.length

theorem cmpFrom_spec {b : Nat} (hb : 2 ≤ b) {l m : List Int} (hl : InR b l) (hm : InR b m) (he : l.length = m.length) :
    ∀ k : Nat, k ≤ l.length → (l.drop k = m.drop k) → cmpFrom l m k = sgn (gv b l) (gv b m)
  | 0, _, hd => by
    simp only [List.drop_zero] at hd
    subst hd
    simp [cmpFrom, sgn]
  | k + 1, hk, hd => by
    have h1 : k < l.length := by omega
    have h2 : k < m.length := by omega
    have el : l.drop k = l.getD k 0 :: l.drop (k + 1) := by
      rw [List.drop_eq_getElem_cons h1]; simp [List.getElem?_eq_getElem h1]
    have em : m.drop k = m.getD k 0 :: m.drop (k + 1) := by
      rw [List.drop_eq_getElem_cons h2]; simp [List.getElem?_eq_getElem h2]
    simp only [cmpFrom]
    by_cases hc : l.getD k 0 = m.getD k 0
    · rw [if_pos hc]
      exact cmpFrom_spec hb hl hm he k (by omega) (by rw [el, em, hc, hd])
    · rw [if_neg hc]
      have tl : l = l.take k ++ l.getD k 0 :: l.drop (k + 1) := by rw [← el, List.take_append_drop]
      have tm : m = m.take k ++ m.getD k 0 :: l.drop (k + 1) := by rw [hd, ← em, List.take_append_drop]
      have i1 : InR b (l.take k) := fun x hx => hl x (List.mem_of_mem_take hx)
      have i2 : InR b (m.take k) := fun x hx => hm x (List.mem_of_mem_take hx)
      have ll : (l.take k).length = (m.take k).length := by simp; omega
      generalize l.getD k 0 = x at *
      generalize m.getD k 0 = y at *
      rcases Int.lt_or_lt_of_ne hc with h | h
      · have := gv_lt_of hb (s := l.drop (k + 1)) i1 i2 ll h
        rw [← tl, ← tm] at this
        simp [sgn, h, this]
      · have := gv_lt_of hb (s := l.drop (k + 1)) i2 i1 ll.symm h
        rw [← tl, ← tm] at this
        have n1 : ¬ x < y := by omega
        have n2 : ¬ gv b l < gv b m := by omega
        simp [sgn, h, this, n1, n2]

theorem cmpL_grp {b : Nat} (hb : 2 ≤ b) (m n : Nat) : cmpL (grp b m) (grp b n) = sgn m n := by
  unfold cmpL
  by_cases h : (grp b m).length = (grp b n).length
  · rw [if_pos h, cmpFrom_spec hb (inR_grp hb m) (inR_grp hb n) h _ (Nat.le_refl _) (by rw [List.drop_length, h, List.drop_length]), gv_grp hb, gv_grp hb]
  · rw [if_neg h]
    by_cases h1 : (grp b m).length < (grp b n).length
    · have := grp_length_lt hb h1
      have a1 : ((grp b m).length : Int) < ((grp b n).length : Int) := by omega
      have a2 : (m : Int) < (n : Int) := by omega
      simp only [sgn, if_pos a1, if_pos a2]
    · have h2 : (grp b n).length < (grp b m).length := by omega
      have := grp_length_lt hb h2
      have a1 : ¬ ((grp b m).length : Int) < ((grp b n).length : Int) := by omega
      have a2 : ¬ (m : Int) < (n : Int) := by omega
      have a3 : ((grp b n).length : Int) < ((grp b m).length : Int) := by omega
      have a4 : (n : Int) < (m : Int) := by omega
      simp only [sgn, if_neg a1, if_neg a2, if_pos a3, if_pos a4]

end Go.Proofs.YtbenflnpnohcjaaGreatDoor.Nm
