/- Contracts of package tariff, second part: a rate's seconds, the price at a second, valid tariffs. -/
import Derived.Test.YtbenflnpnohcjaaGreatDoorT1
import Derived.Lib.RabinKarpLaws
namespace Go.Proofs.YtbenflnpnohcjaaGreatDoor
open Go.RowKit

theorem bcell {w w1 : World} {n : Nat} (hb : Below n w w1) : (∀ b o, b < n → w1.cell? ⟨b, o, none⟩ = w.cell? ⟨b, o, none⟩) ∧ (∀ b o, b < n → w1.frozen? ⟨b, o, none⟩ = w.frozen? ⟨b, o, none⟩) :=
  ⟨fun b o h => hb.cell (p := ⟨b, o, none⟩) h, fun b o h => hb.frozen (p := ⟨b, o, none⟩) h⟩

theorem has_any (r : Tf.Rate) (hr : Tf.okRate r = true) (s : Int) (B : Nat) (h0 : 0 ≤ s) (h1 : s < 604800) (w : World) (hB : B < w.heap.size) (hc : w.cell? ⟨B, 0, none⟩ = some (.int .i64 s)) :
    Calls Tryz.prog 76 #[.agg #[.int .i64 r.days, .int .i64 r.frm, .int .i64 r.til, .int .i64 r.price], .pointer (some ⟨B, 0, none⟩)] w fun e w' => e = .returned (.bool (Tf.has s r)) ∧ Below w.heap.size w w' := by
  have ok := (Tf.okRate_iff r).1 hr
  obtain ⟨k1, k2, k3, k4, k5, k6, k7⟩ := ok
  have hne : B ≠ w.heap.size := by omega
  have hq : 0 ≤ r.days / 2 ^ (s / 86400).toNat ∧ r.days / 2 ^ (s / 86400).toNat ≤ 127 := by
    have hp : (0 : Int) < 2 ^ (s / 86400).toNat := Int.pow_pos (by omega)
    exact ⟨Int.ediv_nonneg (by omega) (by omega), by
      have := Int.ediv_le_self (a := r.days) (2 ^ (s / 86400).toNat) (by omega)
      omega⟩
  have hbit : bits BinOp.and IntKind.i64 (r.days / 2 ^ (s / 86400).toNat) 1 = r.days / 2 ^ (s / 86400).toNat % 2 := by
    obtain ⟨n, hn⟩ := Int.eq_ofNat_of_zero_le hq.1
    rw [hn, Go.Proofs.and_one n (by omega)]
    omega
  have hw : inB (s % 86400) r.frm (r.til - 1) = (decide (r.frm ≤ s % 86400) && decide (s % 86400 < r.til)) := by
    unfold inB
    congr 1
    rw [decide_eq_decide]; omega
  have HB := Lib.hid hbit
  have HW := Lib.hid hw
  clear hbit hw hq
  by_cases hg : bits BinOp.and IntKind.i64 (r.days / 2 ^ (s / 86400).toNat) 1 = 1
  · have hfin : Tf.has s r = inB (s % 86400) r.frm (r.til - 1) := by
      unfold Tf.has
      rw [HW.out, ← HB.out, hg]; simp
    have HF := Lib.hid hfin
    clear hfin
    go_enter Tryz.func76, Tryz.ntmps76
    go_wp2_with (go_at_call 48; refine (isIn_any _ _ _ _).mono ?_; rintro e w' ⟨rfl, rfl⟩)
    go_ret
    exact ⟨by rw [HF.out]; rfl, (Below.refl _ _).alloc (Nat.le_refl _) _⟩
  · have hfin : Tf.has s r = false := by
      unfold Tf.has
      rw [HB.out] at hg
      simp [hg]
    rw [hfin]
    go_enter Tryz.func76, Tryz.ntmps76
    go_wp2_with (go_at_call 48; refine (isIn_any _ _ _ _).mono ?_; rintro e w' ⟨rfl, rfl⟩)
    go_ret
    exact ⟨rfl, (Below.refl _ _).alloc (Nat.le_refl _) _⟩

theorem has_pred (l : List Tf.Rate) (hl : ∀ r ∈ l, Tf.okRate r = true) (s : Int) (B : Nat) (h0 : 0 ≤ s) (h1 : s < 604800) (w : World) (hB : B < w.heap.size) (hc : w.cell? ⟨B, 0, none⟩ = some (.int .i64 s)) :
    RatePred 76 #[.pointer (some ⟨B, 0, none⟩)] (Tf.has s) l w := fun W r hr hb =>
  (has_any r (hl r hr) s B h0 h1 W (Nat.lt_of_lt_of_le hB hb.size) ((hb.cell (p := ⟨B, 0, none⟩) hB).trans hc)).mono fun _ _ ⟨he, hb'⟩ => ⟨he, hb.trans (hb'.mono hb.size)⟩

theorem bad_pred (l : List Tf.Rate) (w : World) : RatePred 47 #[] (fun r => !Tf.okRate r) l w := fun W r _ hb =>
  (bad_any r W).mono fun _ _ ⟨he, hb'⟩ => ⟨he, hb.trans (hb'.mono hb.size)⟩

theorem idxI_range (p : Tf.Rate → Bool) (l : List Tf.Rate) : idxI p l = -1 ∧ l.findIdx? p = none ∨ ∃ k : Nat, idxI p l = k ∧ k < l.length ∧ l.findIdx? p = some k := by
  unfold idxI
  cases h : l.findIdx? p with
  | none => exact .inl ⟨rfl, rfl⟩
  | some k =>
    refine .inr ⟨k, rfl, ?_, rfl⟩
    rw [List.findIdx?_eq_some_iff_getElem] at h
    exact h.1

theorem containsFunc_any (A : Option Addr) (c : Nat) (l : List Tf.Rate) (w : World) (g : Nat) (lb : Array Value) (p : Tf.Rate → Bool) (eg : ∀ args w, (callFunc g args).run Tryz.prog w = .ok (.enter g args) w)
    (hp : RatePred g lb p l w) (hR : RatesAt w A l) (hl : l.length ≤ 9223372036854775807) :
    Calls Tryz.prog 49 #[.slice A l.length c, .func (.func g) #[] lb] w fun e w' => e = .returned (.bool (l.any p)) ∧ Below w.heap.size w w' := by
  have hcall := indexFunc_any A c l w g lb p eg hp hR hl
  have hfin : decide (0 ≤ idxI p l) = l.any p := by
    rcases idxI_range p l with ⟨h1, h2⟩ | ⟨k, h1, h2, h3⟩
    · rw [h1]
      rw [List.findIdx?_eq_none_iff] at h2
      have : l.any p = false := by
        rw [List.any_eq_false]; intro x hx; simp [h2 x hx]
      rw [this]; rfl
    · rw [h1]
      rw [List.findIdx?_eq_some_iff_getElem] at h3
      obtain ⟨h4, h5, _⟩ := h3
      have : l.any p = true := List.any_eq_true.2 ⟨_, List.getElem_mem h4, h5⟩
      rw [this]; simp
  have HF := Lib.hid hfin
  clear hfin hp hR
  go_enter Tryz.func49, Tryz.ntmps49
  go_wp2_with (go_at_call 75; refine hcall.mono ?_; rintro e w' ⟨rfl, hb⟩)
  go_ret
  exact ⟨by rw [← HF.out]; rfl, hb⟩

/-- The price at a second of the week. -/
theorem rated_any (A : Option Addr) (c : Nat) (x : Tf.Tariff) (hx : Tf.okT x = true) (s : Int) (h0 : 0 ≤ s) (h1 : s < 604800) (w : World) (hR : RatesAt w A x.rates) :
    Calls Tryz.prog 52 #[.agg #[.slice A x.rates.length c, .int .i64 x.base], .int .i64 s] w fun e w' => e = .returned (.int .i64 (Tf.rated x s)) ∧ Below w.heap.size w w' := by
  have ok := (Tf.okT_iff x).1 hx
  obtain ⟨rates, base⟩ := x
  simp only at ok hR ⊢
  have hb1 : Below w.heap.size w ((w.alloc (.cells #[.slice A rates.length c, .int .i64 base] 26)).alloc (.cells #[.int .i64 s] 3)) := ((Below.refl _ w).alloc (Nat.le_refl _) _).alloc (by simp) _
  have hcall := indexFunc_any A c rates _ 76 #[.pointer (some ⟨w.heap.size + 1, 0, none⟩)] (Tf.has s) (enters_of Tryz.func76 (by kernel_rfl) rfl)
    (has_pred rates ok.2.2 s (w.heap.size + 1) h0 h1 ((w.alloc (.cells #[.slice A rates.length c, .int .i64 base] 26)).alloc (.cells #[.int .i64 s] 3)) (by simp) (by simp)) (hR.below hb1) (by omega)
  rcases idxI_range (Tf.has s) rates with ⟨e1, e2⟩ | ⟨k, e1, e2, e3⟩
  · have hfin : Tf.rated ⟨rates, base⟩ s = base := by
      unfold Tf.rated
      rw [List.findIdx?_eq_none_iff] at e2
      have : rates.find? (Tf.has s) = none := by rw [List.find?_eq_none]; intro r hr; simp [e2 r hr]
      simp only [this]
    rw [hfin]
    rw [e1] at hcall
    clear hfin e1 e2 hR ok hx
    go_enter Tryz.func52, Tryz.ntmps52
    go_wp2_with (go_at_call 75; refine hcall.mono ?_; rintro e w' ⟨rfl, hb⟩; obtain ⟨hc1, hf1⟩ := bcell hb)
    go_ret
    exact ⟨rfl, hb1.trans (hb.mono (by simp; omega))⟩
  · rw [e1] at hcall
    rw [List.findIdx?_eq_some_iff_getElem] at e3
    obtain ⟨_, h4, h5⟩ := e3
    have hfin : Tf.rated ⟨rates, base⟩ s = rates[k].price := by
      unfold Tf.rated
      have : rates.find? (Tf.has s) = some rates[k] := by
        rw [List.find?_eq_some_iff_getElem]
        exact ⟨h4, k, e2, rfl, fun j hj => by simpa using h5 j hj⟩
      simp only [this]
    rw [hfin]
    obtain ⟨b, off, rfl, hb, hcells⟩ : ∃ b off, A = some ⟨b, off, none⟩ ∧ b < w.heap.size ∧ ∀ j, j < rates.length → ∀ i v, (encR rates[j]!)[i]? = some v → w.cell? ⟨b, off + j * 4 + i, none⟩ = some v := by
      rcases hR with h | h
      · subst h; simp at e2
      · exact h
    have hc3 : w.cell? ⟨b, off + k * 4 + 3, none⟩ = some (.int .i64 rates[k].price) := hcells k e2 3 _ (by rw [getElem!_pos rates k e2]; rfl)
    generalize rates[k].price = pr at hc3 ⊢
    have hk : (k : Int) < (rates.length : Int) := by omega
    clear hfin e1 h4 h5 hcells ok hx
    go_enter Tryz.func52, Tryz.ntmps52
    go_wp2_with (go_at_call 75; refine hcall.mono ?_; rintro e w' ⟨rfl, hb2⟩; obtain ⟨hc1, hf1⟩ := bcell hb2; have hc4 := (hb1.trans (hb2.mono (by simp; omega))).cell (p := ⟨b, off + k * 4 + 3, none⟩) hb; rw [hc3] at hc4)
    go_ret
    exact ⟨rfl, hb1.trans (hb2.mono (by simp; omega))⟩

/-- A valid tariff. -/
theorem valid_any (A : Option Addr) (c : Nat) (x : Tf.Tariff) (hl : x.rates.length ≤ 9223372036854775807) (w : World) (hR : RatesAt w A x.rates) :
    Calls Tryz.prog 18 #[.agg #[.slice A x.rates.length c, .int .i64 x.base]] w fun e w' => e = .returned (.bool (Tf.okT x)) ∧ Below w.heap.size w w' := by
  obtain ⟨rates, base⟩ := x
  simp only at hl hR ⊢
  have hb1 : Below w.heap.size w (w.alloc (.cells #[.slice A rates.length c, .int .i64 base] 26)) := (Below.refl _ w).alloc (Nat.le_refl _) _
  have hcall := containsFunc_any A c rates _ 47 #[] (fun r => !Tf.okRate r) (enters_of Tryz.func47 (by kernel_rfl) rfl) (bad_pred rates (w.alloc (.cells #[.slice A rates.length c, .int .i64 base] 26))) (hR.below hb1) hl
  have hall : (rates.any fun r => !Tf.okRate r) = !rates.all Tf.okRate := by
    rw [List.not_all_eq_any_not]
  rw [hall] at hcall
  have hfin : Tf.okT ⟨rates, base⟩ = (inB base 0 1000000 && (decide (rates.length ≤ 10) && rates.all Tf.okRate)) := by
    unfold Tf.okT inB
    simp
  rw [hfin]
  clear hfin hall hR
  by_cases h1 : inB base 0 1000000 = true
  · by_cases h2 : (rates.length : Int) ≤ 10
    · have h3 : rates.length ≤ 10 := by omega
      go_enter Tryz.func18, Tryz.ntmps18
      go_wp2_with (first | (go_at_call 48; refine (isIn_any _ _ _ _).mono ?_; rintro e w' ⟨rfl, rfl⟩) | (go_at_call 49; refine hcall.mono ?_; rintro e w' ⟨rfl, hb⟩))
      go_ret
      exact ⟨by simp [h1, h3], hb1.trans (hb.mono (by simp))⟩
    · have h3 : decide (rates.length ≤ 10) = false := by simp; omega
      go_enter Tryz.func18, Tryz.ntmps18
      go_wp2_with (first | (go_at_call 48; refine (isIn_any _ _ _ _).mono ?_; rintro e w' ⟨rfl, rfl⟩) | (go_at_call 49; refine hcall.mono ?_; rintro e w' ⟨rfl, hb⟩))
      go_ret
      exact ⟨by simp, hb1⟩
  · have h1' : inB base 0 1000000 = false := by simpa using h1
    go_enter Tryz.func18, Tryz.ntmps18
    go_wp2_with (first | (go_at_call 48; refine (isIn_any _ _ _ _).mono ?_; rintro e w' ⟨rfl, rfl⟩) | (go_at_call 49; refine hcall.mono ?_; rintro e w' ⟨rfl, hb⟩))
    go_ret
    exact ⟨by simp [h1'], hb1⟩

def goodB (x : Tf.Tariff) (z a b : Int) : Bool := Tf.okT x && (zoneB z && spellB a b)
theorem isGood_any (A : Option Addr) (c : Nat) (x : Tf.Tariff) (hl : x.rates.length ≤ 9223372036854775807) (z a b : Int) (w : World) (hR : RatesAt w A x.rates) :
    Calls Tryz.prog 56 #[.agg #[.slice A x.rates.length c, .int .i64 x.base], .int .i64 z, .agg #[.int .i64 a, .int .i64 b]] w fun e w' => e = .returned (.bool (goodB x z a b)) ∧ Below w.heap.size w w' := by
  have hb1 : Below w.heap.size w ((w.alloc (.cells #[.slice A x.rates.length c, .int .i64 x.base] 26)).alloc (.cells #[.int .i64 a, .int .i64 b] 28)) := ((Below.refl _ w).alloc (Nat.le_refl _) _).alloc (by simp) _
  have hcall := valid_any A c x hl _ (hR.below hb1)
  clear hR
  cases h1 : Tf.okT x with
  | false =>
    rw [h1] at hcall
    go_enter Tryz.func56, Tryz.ntmps56
    go_wp2_with (first | (go_at_call 18; refine hcall.mono ?_; rintro e w' ⟨rfl, hb⟩) | (go_at_call 51; refine (isZone_any _ _).mono ?_; rintro e w' ⟨rfl, rfl⟩) | (go_at_call 63; refine (isSpell_any _ _ _).mono ?_; rintro e w' ⟨rfl, hb3⟩))
    go_ret
    exact ⟨by simp [goodB, h1], hb1.trans (hb.mono (by simp; omega))⟩
  | true =>
    rw [h1] at hcall
    cases h2 : zoneB z with
    | false =>
      go_enter Tryz.func56, Tryz.ntmps56
      go_wp2_with (first | (go_at_call 18; refine hcall.mono ?_; rintro e w' ⟨rfl, hb⟩) | (go_at_call 51; refine (isZone_any _ _).mono ?_; rintro e w' ⟨rfl, rfl⟩) | (go_at_call 63; refine (isSpell_any _ _ _).mono ?_; rintro e w' ⟨rfl, hb3⟩))
      go_ret
      exact ⟨by simp [goodB, h1, h2], hb1.trans (hb.mono (by simp; omega))⟩
    | true =>
      go_enter Tryz.func56, Tryz.ntmps56
      go_wp2_with (first | (go_at_call 18; refine hcall.mono ?_; rintro e w' ⟨rfl, hb⟩; obtain ⟨hc1, hf1⟩ := bcell hb; have hz := hb.size; simp only [World.size_alloc] at hz) | (go_at_call 51; refine (isZone_any _ _).mono ?_; rintro e w' ⟨rfl, rfl⟩) | (go_at_call 63; refine (isSpell_any _ _ _).mono ?_; rintro e w' ⟨rfl, hb3⟩))
      go_ret
      exact ⟨by simp [goodB, h1, h2], (hb1.trans (hb.mono (by simp; omega))).trans (hb3.mono (by omega))⟩
end Go.Proofs.YtbenflnpnohcjaaGreatDoor
