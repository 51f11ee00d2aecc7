/- Plain law: the long division, place for place, in any base. -/
import Derived.Test.YtbenflnpnohcjaaGreatDoorNmPlain
namespace Go.Proofs.YtbenflnpnohcjaaGreatDoor.Nm

/-- The places from k on are divided. -/
structure DvOk (b M : Nat) (l : List Int) (k : Nat) (Q : List Int) (R : Nat) : Prop where
  len : Q.length = l.length
  inr : InR b Q
  rem : R < M
  val : gv b (l.drop k) = gv b (Q.drop k) * M + R
theorem DvOk.zero {b M : Nat} (hb : 0 < b) (hM : 0 < M) (l : List Int) : DvOk b M l l.length (List.replicate l.length 0) 0 :=
  ⟨by simp, fun x hx => by have := List.eq_of_mem_replicate hx; omega, hM, by simp [gv]⟩
theorem DvOk.step {b M : Nat} {l : List Int} {k : Nat} {Q : List Int} {R : Nat} (h : DvOk b M l (k + 1) Q R) (hl : InR b l) (hk : k < l.length) {x : Nat} (hx : l[k]? = some (x : Int)) :
    x < b ∧ (R * b + x) / M < b ∧ DvOk b M l k (Q.set k (((R * b + x) / M : Nat) : Int)) ((R * b + x) % M) := by
  have hxb : x < b := by have := hl (x : Int) (List.mem_of_getElem? hx); omega
  have hd : (R * b + x) / M < b := by
    rw [Nat.div_lt_iff_lt_mul (by have := h.rem; omega)]
    have h1 : R + 1 ≤ M := h.rem
    have h2 : (R + 1) * b ≤ M * b := Nat.mul_le_mul_right _ h1
    rw [Nat.add_mul, Nat.one_mul] at h2
    rw [Nat.mul_comm b M]
    omega
  refine ⟨hxb, hd, by rw [List.length_set, h.len], ?_, Nat.mod_lt _ (by have := h.rem; omega), ?_⟩
  · intro y hy
    rcases List.mem_or_eq_of_mem_set hy with h1 | h1
    · exact h.inr y h1
    · rw [h1]; exact ⟨Int.natCast_nonneg _, by exact_mod_cast hd⟩
  · have e1 : l.drop k = (x : Int) :: l.drop (k + 1) := by
      rw [List.drop_eq_getElem_cons hk]
      congr 1
      rw [List.getElem?_eq_getElem hk] at hx
      exact Option.some.inj hx
    have e2 : (Q.set k (((R * b + x) / M : Nat) : Int)).drop k = (((R * b + x) / M : Nat) : Int) :: Q.drop (k + 1) := by
      have hlen : k < (Q.set k (((R * b + x) / M : Nat) : Int)).length := by rw [List.length_set, h.len]; exact hk
      rw [List.drop_eq_getElem_cons hlen, List.getElem_set_self, List.drop_set_of_lt (by omega)]
    rw [e1, e2]
    simp only [gv]
    rw [h.val]
    have h4 := Nat.div_add_mod (R * b + x) M
    generalize (R * b + x) / M = d at *
    generalize (R * b + x) % M = r at *
    generalize gv b (Q.drop (k + 1)) = G at *
    have h5 : (M : Int) * (d : Int) + (r : Int) = (R : Int) * b + x := by
      have : ((M * d + r : Nat) : Int) = ((R * b + x : Nat) : Int) := by rw [h4]
      rw [Int.natCast_add, Int.natCast_mul, Int.natCast_add, Int.natCast_mul] at this
      exact this
    have h6 : ((d : Int) + (b : Int) * G) * (M : Int) = (M : Int) * d + b * (G * M) := by
      rw [Int.add_mul, Int.mul_comm (d : Int), Int.mul_assoc]
    rw [h6, Int.mul_add, Int.mul_comm (b : Int) (R : Int)]
    omega
theorem DvOk.done {b M : Nat} (hb : 2 ≤ b) {N : Nat} {Q : List Int} {R : Nat} (h : DvOk b M (grp b N) 0 Q R) : trim Q = grp b (N / M) ∧ R = N % M := by
  have hr := h.rem
  have hg := gv_nonneg h.inr
  have hv := h.val
  rw [List.drop_zero, List.drop_zero, gv_grp hb] at hv
  rw [trim_eq hb h.inr]
  generalize gv b Q = G at *
  obtain ⟨g, rfl⟩ := Int.eq_ofNat_of_zero_le hg
  have hn : N = g * M + R := by
    have : (N : Int) = ((g * M + R : Nat) : Int) := by rw [hv, Int.natCast_add, Int.natCast_mul]
    exact_mod_cast this
  have hd : N / M = g := by rw [hn, Nat.add_comm, Nat.add_mul_div_right _ _ (by omega), Nat.div_eq_of_lt hr, Nat.zero_add]
  have hm : N % M = R := by rw [hn, Nat.add_comm, Nat.add_mul_mod_self_right, Nat.mod_eq_of_lt hr]
  exact ⟨by rw [hd]; rfl, hm.symm⟩
/-- A digit in front. -/
theorem trim_cons {b : Nat} (hb : 2 ≤ b) {x : Nat} (hx : x < b) (R : Nat) : trim ((x : Int) :: grp b R) = grp b (R * b + x) := by
  rw [trim_eq hb (InR.cons (by omega) (by omega) (inR_grp hb R))]
  congr 1
  simp only [gv]
  rw [gv_grp hb]
  have : ((R * b + x : Nat) : Int) = (x : Int) + b * R := by rw [Int.natCast_add, Int.natCast_mul, Int.mul_comm (b : Int)]; omega
  rw [← this]
  rfl
end Go.Proofs.YtbenflnpnohcjaaGreatDoor.Nm
