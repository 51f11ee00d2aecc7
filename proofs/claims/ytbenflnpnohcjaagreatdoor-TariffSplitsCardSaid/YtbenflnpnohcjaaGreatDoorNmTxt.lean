/- Plain law: the text of a number out of its groups, and the groups out of a text. -/
import Derived.Test.YtbenflnpnohcjaaGreatDoorNmPlain
import Derived.Lib.ItoaNum
import Derived.Lib.Atoi
namespace Go.Proofs.YtbenflnpnohcjaaGreatDoor.Nm

theorem dec_step {u : Nat} (h : 10 ≤ u) : Lib.decDigits u = Lib.decDigits (u / 10) ++ [UInt8.ofNat (48 + u % 10)] := by
  rw [Lib.decDigits, dif_neg (by omega)]

/-- A group of four digits, with zeros in front. -/
def pad4 (d : Nat) : List UInt8 := List.replicate (4 - (Lib.decDigits d).length) 48 ++ Lib.decDigits d
theorem pad4_eq {d : Nat} (h : d < 10000) : (Lib.decDigits d).length ≤ 4 ∧ pad4 d = [UInt8.ofNat (48 + d / 1000), UInt8.ofNat (48 + d / 100 % 10), UInt8.ofNat (48 + d / 10 % 10), UInt8.ofNat (48 + d % 10)] := by
  unfold pad4
  by_cases h1 : d < 10
  · rw [Lib.decDigits_one h1, show d / 1000 = 0 by omega, show d / 100 % 10 = 0 by omega, show d / 10 % 10 = 0 by omega, show d % 10 = d by omega]
    exact ⟨by simp, rfl⟩
  by_cases h2 : d < 100
  · rw [Lib.decDigits_two h1 h2, show d / 1000 = 0 by omega, show d / 100 % 10 = 0 by omega, show d / 10 % 10 = d / 10 by omega]
    exact ⟨by simp, rfl⟩
  by_cases h3 : d < 1000
  · rw [dec_step (by omega), Lib.decDigits_two (i := d / 10) (by omega) (by omega), show d / 1000 = 0 by omega, show d / 10 / 10 = d / 100 % 10 by omega]
    exact ⟨by simp, rfl⟩
  · rw [dec_step (by omega), dec_step (u := d / 10) (by omega), Lib.decDigits_two (i := d / 10 / 10) (by omega) (by omega), show d / 10 / 10 / 10 = d / 1000 by omega, show d / 10 / 10 % 10 = d / 100 % 10 by omega]
    exact ⟨by simp, rfl⟩
theorem dec_app {a d : Nat} (ha : 0 < a) (hd : d < 10000) : Lib.decDigits (10000 * a + d) = Lib.decDigits a ++ pad4 d := by
  rw [(pad4_eq hd).2, dec_step (by omega), dec_step (u := (10000 * a + d) / 10) (by omega), dec_step (u := (10000 * a + d) / 10 / 10) (by omega), dec_step (u := (10000 * a + d) / 10 / 10 / 10) (by omega),
    show (10000 * a + d) / 10 / 10 / 10 / 10 = a by omega, show (10000 * a + d) / 10 / 10 / 10 % 10 = d / 1000 by omega, show (10000 * a + d) / 10 / 10 % 10 = d / 100 % 10 by omega, show (10000 * a + d) / 10 % 10 = d / 10 % 10 by omega, show (10000 * a + d) % 10 = d % 10 by omega]
  simp

/-- The text of the groups from a place on. -/
def tx (N k : Nat) : List UInt8 := if N / 10000 ^ k = 0 then [] else Lib.decDigits (N / 10000 ^ k)
theorem grp_getD {N : Nat} : ∀ (k : Nat), (grp 10000 N).getD k 0 = ((N / 10000 ^ k % 10000 : Nat) : Int)
  | 0 => by
    by_cases h : N = 0
    · subst h; rw [grp_zero]; simp
    · rw [grp_pos (by omega) (by omega)]; simp
  | k + 1 => by
    by_cases h : N = 0
    · subst h; rw [grp_zero]; simp
    · rw [grp_pos (by omega) (by omega), List.getD_cons_succ, grp_getD k, Nat.div_div_eq_div_mul, Nat.pow_succ, Nat.mul_comm 10000]
theorem grp_len_iff (N k : Nat) : k < (grp 10000 N).length ↔ N / 10000 ^ k ≠ 0 := by
  induction k generalizing N with
  | zero =>
    by_cases h : N = 0
    · subst h; rw [grp_zero]; simp
    · rw [grp_pos (by omega) (by omega)]; simp [h]
  | succ k ih =>
    by_cases h : N = 0
    · subst h; rw [grp_zero]; simp
    · rw [grp_pos (by omega) (by omega), List.length_cons, Nat.add_lt_add_iff_right, ih, Nat.div_div_eq_div_mul, Nat.pow_succ, Nat.mul_comm 10000]
theorem tx_top {N k : Nat} (hk : k + 1 = (grp 10000 N).length) : tx N k = Lib.decDigits (N / 10000 ^ k % 10000) := by
  have h1 := (grp_len_iff N k).1 (by omega)
  have h2 : N / 10000 ^ (k + 1) = 0 := by
    by_cases h : N / 10000 ^ (k + 1) = 0
    · exact h
    · have := (grp_len_iff N (k + 1)).2 h; omega
  unfold tx
  rw [if_neg h1]
  rw [Nat.pow_succ, ← Nat.div_div_eq_div_mul] at h2
  rw [Nat.mod_eq_of_lt (by omega)]
theorem tx_step {N k : Nat} (hk : k + 1 < (grp 10000 N).length) : tx N k = tx N (k + 1) ++ pad4 (N / 10000 ^ k % 10000) := by
  have h1 := (grp_len_iff N k).1 (by omega)
  have h2 := (grp_len_iff N (k + 1)).1 hk
  unfold tx
  rw [if_neg h1, if_neg h2]
  have h3 : N / 10000 ^ (k + 1) = N / 10000 ^ k / 10000 := by rw [Nat.pow_succ, ← Nat.div_div_eq_div_mul]
  rw [h3] at h2 ⊢
  rw [← dec_app (Nat.pos_of_ne_zero h2) (Nat.mod_lt _ (by omega))]
  congr 1
  exact (Nat.div_add_mod _ _).symm
theorem tx_all (N : Nat) (h : N ≠ 0) : tx N 0 = Lib.decDigits N := by unfold tx; simp [h]
theorem tx_end (N : Nat) : tx N (grp 10000 N).length = [] := by
  unfold tx
  rw [if_pos]
  by_cases h : N / 10000 ^ (grp 10000 N).length = 0
  · exact h
  · have := (grp_len_iff N _).2 h; omega

/-! Texts read. -/

theorem decFrom_append : ∀ (l m : List UInt8) (acc : Nat), Lib.decFrom acc (l ++ m) = (Lib.decFrom acc l).bind fun a => Lib.decFrom a m
  | [], m, acc => by simp [Lib.decFrom]
  | b :: l, m, acc => by
    simp only [List.cons_append, Lib.decFrom]
    cases Lib.digitVal b with
    | none => rfl
    | some d => exact decFrom_append l m _
def IsDig (l : List UInt8) : Prop := ∀ b ∈ l, 48 ≤ b.toNat ∧ b.toNat ≤ 57
theorem IsDig.cons {b : UInt8} {l : List UInt8} (h : IsDig (b :: l)) : (48 ≤ b.toNat ∧ b.toNat ≤ 57) ∧ IsDig l := ⟨h b (by simp), fun c hc => h c (by simp [hc])⟩
theorem IsDig.take {l : List UInt8} (h : IsDig l) (k : Nat) : IsDig (l.take k) := fun b hb => h b (List.mem_of_mem_take hb)
theorem IsDig.drop {l : List UInt8} (h : IsDig l) (k : Nat) : IsDig (l.drop k) := fun b hb => h b (List.mem_of_mem_drop hb)
/-- The number that digits spell. -/
def dv (acc : Nat) (l : List UInt8) : Nat := l.foldl (fun a b => a * 10 + (b.toNat - 48)) acc
theorem decFrom_dig : ∀ {l : List UInt8} (_ : IsDig l) (acc : Nat), Lib.decFrom acc l = some (dv acc l)
  | [], _, acc => rfl
  | b :: l, h, acc => by
    have h1 := h.cons
    simp only [Lib.decFrom, Lib.digitVal, if_pos h1.1]
    exact decFrom_dig h1.2 _
theorem dv_append (acc : Nat) (l m : List UInt8) : dv acc (l ++ m) = dv (dv acc l) m := by simp [dv]
theorem dv_acc : ∀ (l : List UInt8) (acc : Nat), dv acc l = acc * 10 ^ l.length + dv 0 l
  | [], acc => by simp [dv]
  | b :: l, acc => by
    have e1 : dv acc (b :: l) = dv (acc * 10 + (b.toNat - 48)) l := rfl
    have e2 : dv 0 (b :: l) = dv (0 * 10 + (b.toNat - 48)) l := rfl
    rw [e1, e2, dv_acc l (acc * 10 + (b.toNat - 48)), dv_acc l (0 * 10 + (b.toNat - 48)), List.length_cons, Nat.pow_succ]
    generalize b.toNat - 48 = d
    rw [Nat.zero_mul, Nat.zero_add, Nat.add_mul, Nat.mul_assoc, Nat.mul_comm 10, Nat.add_assoc]
theorem dv_lt : ∀ {l : List UInt8} (_ : IsDig l), dv 0 l < 10 ^ l.length
  | [], _ => by simp [dv]
  | b :: l, h => by
    have h1 := h.cons
    have ih := dv_lt h1.2
    have e2 : dv 0 (b :: l) = dv (0 * 10 + (b.toNat - 48)) l := rfl
    rw [e2, dv_acc, List.length_cons, Nat.pow_succ, Nat.zero_mul, Nat.zero_add]
    have h2 : b.toNat - 48 ≤ 9 := by omega
    have h3 : (b.toNat - 48) * 10 ^ l.length ≤ 9 * 10 ^ l.length := Nat.mul_le_mul_right _ h2
    omega
theorem ofNat_toNat {n : Nat} (h : n < 10) : (UInt8.ofNat (48 + n)).toNat = 48 + n := by
  rw [UInt8.toNat_ofNat', Nat.mod_eq_of_lt (by omega)]
theorem dec_isDig (u : Nat) : IsDig (Lib.decDigits u) := by
  induction u using Nat.strongRecOn with
  | _ u ih =>
    by_cases h : u < 10
    · rw [Lib.decDigits_one h]
      intro b hb
      rw [List.mem_singleton] at hb
      subst hb
      rw [ofNat_toNat h]; omega
    · rw [dec_step (by omega)]
      intro b hb
      rcases List.mem_append.1 hb with hb | hb
      · exact ih _ (by omega) b hb
      · rw [List.mem_singleton] at hb
        subst hb
        rw [ofNat_toNat (Nat.mod_lt _ (by omega))]; omega
theorem dv_dec (u : Nat) : dv 0 (Lib.decDigits u) = u := by
  induction u using Nat.strongRecOn with
  | _ u ih =>
    by_cases h : u < 10
    · rw [Lib.decDigits_one h]
      show 0 * 10 + ((UInt8.ofNat (48 + u)).toNat - 48) = u
      rw [ofNat_toNat h]; omega
    · rw [dec_step (by omega), dv_append, ih _ (by omega)]
      show u / 10 * 10 + ((UInt8.ofNat (48 + u % 10)).toNat - 48) = u
      rw [ofNat_toNat (Nat.mod_lt _ (by omega))]; omega
theorem dec_ne (u : Nat) : Lib.decDigits u ≠ [] := by
  intro h
  have := Lib.decDigits_length u
  rw [h] at this
  have := Lib.nDigits_pos u
  simp at *
  omega
theorem head_app {l : List UInt8} (h : l ≠ []) (m : List UInt8) : (l ++ m).head? = l.head? := by
  cases l with
  | nil => exact absurd rfl h
  | cons a l => rfl
theorem dec_head (u : Nat) (h : u ≠ 0) : ∀ b, (Lib.decDigits u).head? = some b → b ≠ 48 := by
  induction u using Nat.strongRecOn with
  | _ u ih =>
    intro b hb
    by_cases h1 : u < 10
    · rw [Lib.decDigits_one h1] at hb
      simp only [List.head?_cons, Option.some.injEq] at hb
      subst hb
      intro h2
      have := ofNat_toNat h1
      rw [h2] at this
      have h3 : (48 : UInt8).toNat = 48 := rfl
      omega
    · rw [dec_step (by omega)] at hb
      rw [head_app (dec_ne _)] at hb
      exact ih _ (by omega) (by omega) b hb
theorem snoc_of_ne {l : List UInt8} (h : l ≠ []) : ∃ m b, l = m ++ [b] := ⟨l.dropLast, l.getLast h, (List.dropLast_concat_getLast h).symm⟩
/-- Digits without a zero in front are those of the number that they spell. -/
theorem dec_of_dv (n : Nat) : ∀ {l : List UInt8} (_ : l.length = n) (_ : IsDig l) (_ : l ≠ []) (_ : l = [48] ∨ ∀ b, l.head? = some b → b ≠ 48), Lib.decDigits (dv 0 l) = l := by
  induction n with
  | zero => intro l hl _ h; exact absurd (List.eq_nil_of_length_eq_zero hl) h
  | succ n ih =>
    intro l hl hd h h0
    obtain ⟨m, b, rfl⟩ := snoc_of_ne h
    rw [dv_append]
    have hb := hd b (by simp)
    have e : dv (dv 0 m) [b] = dv 0 m * 10 + (b.toNat - 48) := rfl
    rw [e]
    have hbo : UInt8.ofNat (48 + (b.toNat - 48)) = b := by
      rw [show 48 + (b.toNat - 48) = b.toNat by omega]; exact UInt8.ofNat_toNat
    by_cases hm : m = []
    · subst hm
      rw [show dv 0 ([] : List UInt8) = 0 from rfl, Nat.zero_mul, Nat.zero_add, Lib.decDigits_one (by omega), hbo]
      rfl
    · have hh : ∀ c, m.head? = some c → c ≠ 48 := by
        intro c hc
        rcases h0 with h0 | h0
        · have := congrArg List.length h0
          simp at this
          exact absurd this hm
        · exact h0 c (by rw [head_app hm]; exact hc)
      have hdm : IsDig m := fun c hc => hd c (by simp [hc])
      have hml : m.length = n := by simp at hl; exact hl
      have i := ih hml hdm hm (.inr hh)
      have hne : dv 0 m ≠ 0 := by
        intro hz
        rw [hz] at i
        rw [Lib.decDigits_one (by omega)] at i
        exact hh _ (by rw [← i]; rfl) rfl
      rw [dec_step (by omega), show (dv 0 m * 10 + (b.toNat - 48)) / 10 = dv 0 m by omega, show (dv 0 m * 10 + (b.toNat - 48)) % 10 = b.toNat - 48 by omega, i, hbo]
theorem dec_inj {a b : Nat} (h : Lib.decDigits a = Lib.decDigits b) : a = b := by rw [← dv_dec a, h, dv_dec]

/-! The loop of parse: the digits from place k on are read. -/

structure PaOk (D : List UInt8) (k : Nat) (l : List Int) : Prop where
  le : k ≤ D.length
  inr : InR 10000 l
  val : gv 10000 l + ((10000 : Nat) : Int) ^ l.length * (dv 0 (D.take k) : Int) = dv 0 D
theorem PaOk.zero (D : List UInt8) : PaOk D D.length [] := ⟨Nat.le_refl _, fun x hx => by simp at hx, by simp [gv]⟩
theorem PaOk.step {D : List UInt8} {k : Nat} {l : List Int} (h : PaOk D k l) (hD : IsDig D) (hk : 0 < k) : PaOk D (k - 4) (l ++ [((dv 0 ((D.take k).drop (k - 4)) : Nat) : Int)]) := by
  have hlen : ((D.take k).drop (k - 4)).length ≤ 4 := by simp; omega
  have hx := dv_lt ((hD.take k).drop (k - 4))
  have hx2 : dv 0 ((D.take k).drop (k - 4)) < 10000 := Nat.lt_of_lt_of_le hx (by
    calc 10 ^ ((D.take k).drop (k - 4)).length ≤ 10 ^ 4 := Nat.pow_le_pow_right (by omega) hlen
      _ = 10000 := rfl)
  refine ⟨by have := h.le; omega, h.inr.append (fun x hx => by simp at hx; subst hx; omega), ?_⟩
  have hv := h.val
  rw [← hv, gv_snoc, List.length_append, List.length_cons, List.length_nil, Int.pow_succ]
  have e : dv 0 (D.take k) = dv 0 (D.take (k - 4)) * 10000 + dv 0 ((D.take k).drop (k - 4)) := by
    have e1 : D.take k = D.take (k - 4) ++ (D.take k).drop (k - 4) := by
      have := (List.take_append_drop (k - 4) (D.take k)).symm
      rw [List.take_take, Nat.min_eq_left (by omega)] at this
      exact this
    conv => lhs; rw [e1]
    rw [dv_append, dv_acc]
    by_cases h4 : 4 ≤ k
    · have : ((D.take k).drop (k - 4)).length = 4 := by have := h.le; simp; omega
      rw [this]
    · rw [show k - 4 = 0 by omega]
      simp [dv]
  rw [e]
  generalize dv 0 (D.take (k - 4)) = m
  generalize dv 0 ((D.take k).drop (k - 4)) = x
  generalize gv 10000 l = g
  have e5 : ((m * 10000 + x : Nat) : Int) = (m : Int) * 10000 + x := by omega
  rw [e5, Int.mul_add, Int.mul_assoc, Int.mul_comm (m : Int)]
  have e6 : ((10000 : Nat) : Int) = 10000 := rfl
  rw [e6]
  omega
theorem PaOk.done {D : List UInt8} {l : List Int} (h : PaOk D 0 l) : trim l = grp 10000 (dv 0 D) := by
  rw [trim_eq (b := 10000) (by omega) h.inr]
  have := h.val
  simp [dv] at this
  congr 1
  rw [this]
  simp [dv]
end Go.Proofs.YtbenflnpnohcjaaGreatDoor.Nm
