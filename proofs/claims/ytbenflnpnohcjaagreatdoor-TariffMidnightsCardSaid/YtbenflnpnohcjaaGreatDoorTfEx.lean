/- Plain law: the example's tariff. -/
import Derived.Test.YtbenflnpnohcjaaGreatDoorS2
namespace Go.Proofs.YtbenflnpnohcjaaGreatDoor

def ex : Tf.Tariff := ⟨[⟨96, 0, 86400, 60⟩, ⟨127, 0, 28800, 120⟩], 600⟩
theorem ex_ok : Tf.okT ex = true := by decide
theorem ex_p1 {t : Int} (h0 : 0 ≤ t) (h1 : t < 25200) : Tf.price ex 3600 t = 120 := by
  have hl : Tf.loc 3600 t = t + 3600 := by unfold Tf.loc; omega
  have hd : (t + 3600) / 86400 = 0 := by omega
  have hm : (t + 3600) % 86400 = t + 3600 := by omega
  unfold Tf.price Tf.rated ex
  rw [hl]
  simp only [List.find?, Tf.has, hd, hm]
  have e1 : decide ((0 : Int) ≤ t + 3600) = true := by simp; omega
  have e2 : decide (t + 3600 < 28800) = true := by simp; omega
  rw [e1, e2]
  rfl
theorem ex_p2 {t : Int} (h0 : 25200 ≤ t) (h1 : t < 82800) : Tf.price ex 3600 t = 600 := by
  have hl : Tf.loc 3600 t = t + 3600 := by unfold Tf.loc; omega
  have hd : (t + 3600) / 86400 = 0 := by omega
  have hm : (t + 3600) % 86400 = t + 3600 := by omega
  unfold Tf.price Tf.rated ex
  rw [hl]
  simp only [List.find?, Tf.has, hd, hm]
  have e1 : decide ((0 : Int) ≤ t + 3600) = true := by simp; omega
  have e2 : decide (t + 3600 < 28800) = false := by simp; omega
  rw [e1, e2]
  rfl
theorem ex_S1 {a b : Int} (h0 : 0 ≤ a) (hab : a ≤ b) (h1 : b ≤ 25200) : Tf.S (Tf.price ex 3600) a b = 120 * (b - a) := Tf.S_const hab (fun t h2 h3 => ex_p1 (by omega) (by omega))
theorem ex_S2 {a b : Int} (h0 : 25200 ≤ a) (hab : a ≤ b) (h1 : b ≤ 82800) : Tf.S (Tf.price ex 3600) a b = 600 * (b - a) := Tf.S_const hab (fun t h2 h3 => ex_p2 (by omega) (by omega))
theorem ex_S3 {a b : Int} (h0 : 0 ≤ a) (hab : a ≤ 25200) (h1 : 25200 ≤ b) (h2 : b ≤ 82800) : Tf.S (Tf.price ex 3600) a b = 120 * (25200 - a) + 600 * (b - 25200) := by
  rw [Tf.S_add (b := 25200) _ hab h1, ex_S1 h0 hab (by omega), ex_S2 (by omega) h1 h2]
theorem ex_prices : Tf.price ex 3600 0 = 120 ∧ Tf.price ex 3600 25199 = 120 ∧ Tf.price ex 3600 25200 = 600 ∧ Tf.price ex 3600 428399 = 600 ∧ Tf.price ex 3600 428400 = 60 := by decide
theorem ex_sum : Tf.S (Tf.price ex 3600) 25190 25210 = 7200 := by rw [ex_S3 (by decide) (by decide) (by decide) (by decide)]; decide
theorem ex_amt : amt ex 3600 25190 25210 = 120 ∧ amt ex 3600 25190 25195 = 10 ∧ amt ex 3600 25195 25210 = 110 := by
  unfold amt
  rw [ex_S3 (a := 0) (b := 25210) (by decide) (by decide) (by decide) (by decide), ex_S1 (a := 0) (b := 25190) (by decide) (by decide) (by decide), ex_S1 (a := 0) (b := 25195) (by decide) (by decide) (by decide)]
  decide
theorem ex_exact : Tf.S (Tf.price ex 3600) 0 5 = 600 := by rw [ex_S1 (by decide) (by decide) (by decide)]; decide
theorem ex_mids : Tf.midnights 3600 0 200000 = [82800, 169200] := by decide
theorem two_of {l : List Int} (hs : l.Pairwise (· < ·)) (hm : ∀ b, b ∈ l ↔ b = 0 ∨ b = 28800) : l = [0, 28800] := by
  have h0 := (hm 0).2 (.inl rfl)
  have h1 := (hm 28800).2 (.inr rfl)
  match l, hs with
  | [], _ => simp at h0
  | [a], _ => simp at h0 h1; omega
  | [a, b], hs =>
    have h2 := (hm a).1 (by simp)
    have h3 := (hm b).1 (by simp)
    simp at hs h0 h1
    have : a = 0 ∧ b = 28800 := by omega
    rw [this.1, this.2]
  | a :: b :: c :: t, hs =>
    have h2 := (hm a).1 (by simp)
    have h3 := (hm b).1 (by simp)
    have h4 := (hm c).1 (by simp)
    simp only [List.pairwise_cons] at hs
    have h5 := hs.1 b (by simp)
    have h6 := hs.2.1 c (by simp)
    omega
theorem ex_chg : Tf.chg ex = [0, 28800] := two_of (Tf.chg_sorted ex) (fun b => by
  rw [Tf.mem_chg]
  unfold ex
  simp)
theorem ex_merged : Tf.merged (Tf.pcsT ex 3600 25190 25210) = [⟨25190, 25200, 120⟩, ⟨25200, 25210, 600⟩] := by
  rw [Tf.pcsT_step ex ex_ok 3600 (by decide), show Tf.upTo (Tf.chg ex) 3600 25210 25190 = 25200 by rw [ex_chg]; decide, Tf.pcsT_step ex ex_ok 3600 (by decide), show Tf.upTo (Tf.chg ex) 3600 25210 25200 = 25210 by rw [ex_chg]; decide, Tf.pcsT_nil ex 3600 (by decide), ex_p1 (by decide) (by decide), ex_p2 (by decide) (by decide)]
  rfl
theorem ex_first {t : Int} (h : Tf.First (Tf.price ex 3600) 60 20000 (30000 - 60) t) : t = 20000 ∧ Tf.win (Tf.price ex 3600) 60 t = 7200 := by
  obtain ⟨h1, h2, h3⟩ := h
  have w0 : Tf.win (Tf.price ex 3600) 60 20000 = 7200 := by
    unfold Tf.win
    rw [ex_S1 (by decide) (by decide) (by decide)]
    decide
  have hge : 7200 ≤ Tf.win (Tf.price ex 3600) 60 t := by
    have hle := Tf.S_le (f := fun _ => 120) (g := Tf.price ex 3600) (a := t) (b := t + 60) (fun u hu1 hu2 => by
      by_cases hu : u < 25200
      · rw [ex_p1 (by omega) hu]; omega
      · rw [ex_p2 (by omega) (by omega)]; omega)
    rw [Tf.S_const (c := 120) (by omega) (fun _ _ _ => rfl)] at hle
    unfold Tf.win
    omega
  have := h3 20000 (by omega) (by omega)
  rw [w0] at this
  have ht : t = 20000 := by omega
  exact ⟨ht, by rw [ht]; exact w0⟩
end Go.Proofs.YtbenflnpnohcjaaGreatDoor
