/- The seconds of a day at which prices can change: sorted, each once; without any program. -/
import Derived.Test.YtbenflnpnohcjaaGreatDoorTfPlain
import Derived.Lib.SlicesCompact
namespace Go.Proofs.YtbenflnpnohcjaaGreatDoor.Tf
open Go.Lib

/-- The borders as the program collects them. -/
def chPart (l : List Rate) : List Int := 0 :: l.flatMap fun r => [r.frm, r.til % 86400]
def chSort (x : Tariff) : List Int := (chPart x.rates).mergeSort fun a b => decide (a ≤ b)
def chg (x : Tariff) : List Int := compact (chSort x)

theorem chPart_snoc (l : List Rate) (r : Rate) : chPart (l ++ [r]) = chPart l ++ [r.frm, r.til % 86400] := by simp [chPart]
theorem chPart_length (l : List Rate) : (chPart l).length = 1 + 2 * l.length := by
  induction l with
  | nil => rfl
  | cons r l ih => simp only [chPart, List.flatMap_cons, List.length_cons, List.length_append, List.length_nil] at ih ⊢; omega
theorem chSort_length (x : Tariff) : (chSort x).length = 1 + 2 * x.rates.length := by
  unfold chSort; rw [List.length_mergeSort, chPart_length]

theorem chSort_sorted (x : Tariff) : (chSort x).Pairwise (· ≤ ·) := by
  have := List.pairwise_mergeSort (le := fun (a b : Int) => decide (a ≤ b)) (by intro a b c; simp; omega) (by intro a b; simp; omega) (chPart x.rates)
  exact this.imp (by intro a b h; simpa using h)

theorem mem_compact {zs : List Int} (x : Int) : x ∈ compact zs ↔ x ∈ zs := by
  unfold compact compactUpTo
  simp only [List.mem_map, List.mem_filter, List.mem_range]
  constructor
  · rintro ⟨j, ⟨hj, _⟩, rfl⟩
    rw [getElem!_pos zs.toArray j (by simpa using hj)]
    simp
  · intro hx
    obtain ⟨i, hi, rfl⟩ := List.mem_iff_getElem.1 hx
    -- the first place at which it stands
    have key : ∀ (k : Nat) (hk : k < zs.length), zs[k] = zs[i] → ∃ j, (j < zs.length ∧ keeps zs.toArray j = true) ∧ zs.toArray[j]! = zs[i] := by
      intro k
      induction k with
      | zero => exact fun hk he => ⟨0, ⟨hk, keeps_lt_one _ 0 (by omega)⟩, by rw [getElem!_pos zs.toArray 0 (by simpa using hk)]; simpa using he⟩
      | succ k ih =>
        intro hk he
        by_cases h : zs[k] = zs[i]
        · exact ih (by omega) h
        · refine ⟨k + 1, ⟨hk, keeps_pos ?_⟩, by rw [getElem!_pos zs.toArray (k + 1) (by simpa using hk)]; simpa using he⟩
          rw [getElem!_pos zs.toArray (k + 1) (by simpa using hk), Nat.add_sub_cancel, getElem!_pos zs.toArray k (by simp; omega)]
          simp only [List.getElem_toArray]
          rw [he]; exact fun e => h e.symm
    exact key i hi rfl

theorem compact_lt {zs : List Int} (hs : zs.Pairwise (· ≤ ·)) : (compact zs).Pairwise (· < ·) := by
  unfold compact compactUpTo
  rw [List.pairwise_map]
  refine List.Pairwise.imp_of_mem ?_ ((List.pairwise_lt_range (n := zs.length)).filter _)
  intro i j hi hj hij
  simp only [List.mem_filter, List.mem_range] at hi hj
  have hs' := List.pairwise_iff_getElem.1 hs
  rw [getElem!_pos zs.toArray i (by simpa using hi.1), getElem!_pos zs.toArray j (by simpa using hj.1)]
  simp only [List.getElem_toArray]
  have h1 : zs[j - 1] ≠ zs[j] := by
    intro e
    have := keeps_neg (d := zs.toArray) (m := j) (by omega) (by
      rw [getElem!_pos zs.toArray j (by simpa using hj.1), getElem!_pos zs.toArray (j - 1) (by simp; omega)]
      simpa using e.symm)
    rw [this] at hj
    simp at hj
  have h2 : zs[j - 1] ≤ zs[j] := hs' (j - 1) j (by omega) hj.1 (by omega)
  have h3 : zs[i] ≤ zs[j - 1] := by
    by_cases e : i = j - 1
    · subst e; exact Int.le_refl _
    · exact hs' i (j - 1) hi.1 (by omega) (by omega)
  omega

theorem mem_chg {x : Tariff} (b : Int) : b ∈ chg x ↔ b = 0 ∨ ∃ r ∈ x.rates, b = r.frm ∨ b = r.til % 86400 := by
  unfold chg chSort
  rw [mem_compact, List.mem_mergeSort]
  simp [chPart]

theorem chg_sorted (x : Tariff) : (chg x).Pairwise (· < ·) := compact_lt (chSort_sorted x)
theorem chg_range {x : Tariff} (hx : okT x = true) : ∀ b ∈ chg x, 0 ≤ b ∧ b < 86400 := by
  intro b hb
  rw [mem_chg] at hb
  rcases hb with rfl | ⟨r, hr, h⟩
  · omega
  · have := (okRate_iff r).1 (((okT_iff x).1 hx).2.2 r hr)
    omega
theorem chg_covers (x : Tariff) : Covers (chg x) x := fun r hr => ⟨(mem_chg _).2 (.inr ⟨r, hr, .inl rfl⟩), (mem_chg _).2 (.inr ⟨r, hr, .inr rfl⟩)⟩
theorem chg_length_le (x : Tariff) : (chg x).length ≤ 1 + 2 * x.rates.length := by
  have h : (chg x).length ≤ (chSort x).length := by
    unfold chg compact compactUpTo
    rw [List.length_map]
    exact Nat.le_trans (List.length_filter_le _ _) (by simp)
  rw [chSort_length] at h; exact h

/-- The pieces of a spell, with the tariff's own borders. -/
def pcsT (x : Tariff) (z a b : Int) : List Pc := pcs x (chg x) z a b
theorem pcsT_chain {x : Tariff} (hx : okT x = true) (z : Int) {a b : Int} (hab : a ≤ b) : Chain (price x z) a b (pcsT x z a b) :=
  pieces_chain hx (chg_sorted x) (fun b hb => (chg_range hx b hb).2) (chg_covers x) z b _ a hab (Nat.le_refl _)

/-- What the search gives: the number of the smaller ones is the place of the first one that is great enough. -/
theorem nextB_at {l : List Int} (hs : l.Pairwise (· < ·)) (d : Int) :
    nextB l d = if l.countP (· < d + 1) < l.length then l.getD (l.countP (· < d + 1)) 0 else 86400 := by
  unfold nextB
  induction l with
  | nil => simp
  | cons c l ih =>
    have hs' := List.pairwise_cons.1 hs
    by_cases hc : d + 1 ≤ c
    · have h0 : (c :: l).countP (· < d + 1) = 0 := by
        rw [List.countP_eq_zero]
        intro b hb
        rcases List.mem_cons.1 hb with rfl | hb
        · simp; omega
        · have := hs'.1 b hb; simp; omega
      rw [h0, List.find?_cons_of_pos (by simpa using hc)]
      simp
    · have h1 : (c :: l).countP (· < d + 1) = l.countP (· < d + 1) + 1 := by
        rw [List.countP_cons_of_pos (by simp; omega)]
      rw [h1, List.find?_cons_of_neg (by simpa using hc), ih hs'.2]
      simp
end Go.Proofs.YtbenflnpnohcjaaGreatDoor.Tf
