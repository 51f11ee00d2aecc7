/- Plain law of the long division of number.over. -/
import Derived.Test.YtbenflnpnohcjaaGreatDoorN8
namespace Go.Proofs.YtbenflnpnohcjaaGreatDoor.Nm

/-- One place of the division: the digits of the quotient, and the remainder. -/
def ovStep (M : Nat) (l : List Int) (s : List Int × Nat) (p : Nat) : List Int × Nat :=
  (s.1.set p (((s.2 * 10000 + (gd l p).toNat) / M : Nat) : Int), (s.2 * 10000 + (gd l p).toNat) % M)
def ovAt (M : Nat) (l : List Int) (ps : List (Fin l.length)) : List Int × Nat := ps.foldl (fun s p => ovStep M l s p.val) (List.replicate l.length 0, 0)
theorem ovAt_snoc (M : Nat) (l : List Int) (ps : List (Fin l.length)) (p : Fin l.length) : ovAt M l (ps ++ [p]) = ovStep M l (ovAt M l ps) p.val := by simp [ovAt]

/-- What holds at every place. -/
structure OvOk (M : Nat) (l : List Int) (s : List Int × Nat) : Prop where
  len : s.1.length = l.length
  inr : InR 10000 s.1
  rem : s.2 < M
theorem OvOk.step {M : Nat} {l : List Int} {s : List Int × Nat} (h : OvOk M l s) (hl : InR 10000 l) {p : Nat} (hp : p < l.length) : OvOk M l (ovStep M l s p) ∧ (s.2 * 10000 + (gd l p).toNat) / M ≤ 9999 := by
  have hx : 0 ≤ gd l p ∧ gd l p < 10000 := by
    unfold gd
    rw [List.getD_eq_getElem?_getD, List.getElem?_eq_getElem hp, Option.getD_some]
    exact hl _ (List.getElem_mem hp)
  have hd : (s.2 * 10000 + (gd l p).toNat) / M < 10000 := by
    rw [Nat.div_lt_iff_lt_mul (by have := h.rem; omega)]
    have h1 : s.2 + 1 ≤ M := h.rem
    have h2 : (s.2 + 1) * 10000 ≤ M * 10000 := Nat.mul_le_mul_right _ h1
    omega
  refine ⟨⟨by simp [ovStep, h.len], ?_, Nat.mod_lt _ (by have := h.rem; omega)⟩, by omega⟩
  intro y hy
  unfold ovStep at hy
  dsimp only at hy
  generalize (s.2 * 10000 + (gd l p).toNat) / M = q at *
  rcases List.mem_or_eq_of_mem_set hy with h1 | h1
  · exact h.inr y h1
  · rw [h1]; omega
theorem ovAt_ok {M : Nat} (hM : 0 < M) {l : List Int} (hl : InR 10000 l) (ps : List (Fin l.length)) : OvOk M l (ovAt M l ps) := by
  unfold ovAt
  have h0 : OvOk M l (List.replicate l.length 0, 0) := ⟨by simp, fun x hx => by have := List.eq_of_mem_replicate hx; omega, hM⟩
  generalize (List.replicate l.length (0 : Int), 0) = s at h0
  induction ps generalizing s with
  | nil => exact h0
  | cons p ps ih => exact ih _ (h0.step hl p.isLt).1

theorem ov_fold {M : Nat} {l : List Int} (hl : InR 10000 l) : ∀ (k : Nat) (h : k ≤ l.length) (s : List Int × Nat), OvOk M l s → gv 10000 (l.drop k) = gv 10000 (s.1.drop k) * M + s.2 →
    gv 10000 l = gv 10000 ((backFrom l.length k h).foldl (fun s p => ovStep M l s p.val) s).1 * M + ((backFrom l.length k h).foldl (fun s p => ovStep M l s p.val) s).2
  | 0, _, s, _, h => by simpa [backFrom] using h
  | k + 1, hk, s, ho, h => by
    have hst := ho.step hl (p := k) hk
    simp only [backFrom, List.foldl_cons]
    refine ov_fold hl k _ _ hst.1 ?_
    have hx : 0 ≤ gd l k ∧ gd l k < 10000 := by
      unfold gd
      rw [List.getD_eq_getElem?_getD, List.getElem?_eq_getElem (by omega), Option.getD_some]
      exact hl _ (List.getElem_mem _)
    have e1 : l.drop k = gd l k :: l.drop (k + 1) := by
      rw [List.drop_eq_getElem_cons (show k < l.length by omega)]; simp [gd, List.getElem?_eq_getElem (show k < l.length by omega)]
    have e2 : (ovStep M l s k).1.drop k = (((s.2 * 10000 + (gd l k).toNat) / M : Nat) : Int) :: s.1.drop (k + 1) := by
      have hlen : k < (s.1.set k (((s.2 * 10000 + (gd l k).toNat) / M : Nat) : Int)).length := by rw [List.length_set, ho.len]; omega
      unfold ovStep
      rw [List.drop_eq_getElem_cons hlen, List.getElem_set_self, List.drop_set_of_lt (by omega)]
    have e3 : (ovStep M l s k).2 = (s.2 * 10000 + (gd l k).toNat) % M := rfl
    rw [e1, e2, e3]
    simp only [gv]
    rw [h]
    have h4 := Nat.div_add_mod (s.2 * 10000 + (gd l k).toNat) M
    generalize (s.2 * 10000 + (gd l k).toNat) / M = d at *
    generalize (s.2 * 10000 + (gd l k).toNat) % M = r at *
    generalize gv 10000 (s.1.drop (k + 1)) = G at *
    have h5 : (M : Int) * (d : Int) + (r : Int) = (s.2 : Int) * 10000 + gd l k := by
      have : ((M * d + r : Nat) : Int) = ((s.2 * 10000 + (gd l k).toNat : Nat) : Int) := by rw [h4]
      rw [Int.natCast_add, Int.natCast_mul, Int.natCast_add, Int.natCast_mul] at this
      omega
    have h6 : ((d : Int) + (10000 : Nat) * G) * (M : Int) = (M : Int) * d + 10000 * (G * M) := by
      rw [Int.add_mul, Int.mul_comm (d : Int), Int.mul_assoc]; rfl
    rw [h6]
    omega

theorem over_grp (N M : Nat) (hM : 0 < M) : trim (ovAt M (grp 10000 N) (backAll (grp 10000 N))).1 = grp 10000 (N / M) ∧ (ovAt M (grp 10000 N) (backAll (grp 10000 N))).2 = N % M := by
  have hl := inR_grp (b := 10000) (by omega) N
  have ho := ovAt_ok hM hl (backAll (grp 10000 N))
  have h0 : OvOk M (grp 10000 N) (List.replicate (grp 10000 N).length 0, 0) := ⟨by simp, fun x hx => by have := List.eq_of_mem_replicate hx; omega, hM⟩
  have hf := ov_fold hl (grp 10000 N).length (Nat.le_refl _) _ h0 (by simp [gv])
  have hf' : gv 10000 (grp 10000 N) = gv 10000 (ovAt M (grp 10000 N) (backAll (grp 10000 N))).1 * M + (ovAt M (grp 10000 N) (backAll (grp 10000 N))).2 := hf
  rw [gv_grp (by omega)] at hf'
  have hr := ho.rem
  have hg := gv_nonneg ho.inr
  rw [trim_eq (by omega) ho.inr]
  generalize gv 10000 (ovAt M (grp 10000 N) (backAll (grp 10000 N))).1 = G at *
  generalize (ovAt M (grp 10000 N) (backAll (grp 10000 N))).2 = R at *
  obtain ⟨g, rfl⟩ := Int.eq_ofNat_of_zero_le hg
  have hn : N = g * M + R := by
    have : (N : Int) = ((g * M + R : Nat) : Int) := by rw [hf', Int.natCast_add, Int.natCast_mul]
    exact_mod_cast this
  have hd : N / M = g := by rw [hn, Nat.add_comm, Nat.add_mul_div_right _ _ hM, Nat.div_eq_of_lt hr, Nat.zero_add]
  have hm : N % M = R := by rw [hn, Nat.add_comm, Nat.add_mul_mod_self_right, Nat.mod_eq_of_lt hr]
  exact ⟨by rw [hd]; rfl, hm.symm⟩
end Go.Proofs.YtbenflnpnohcjaaGreatDoor.Nm
