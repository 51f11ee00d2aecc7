/- Plain facts on the borders of a tariff: where prices change, and the reference's pieces, without any program. Plain facts for the laws on weeks, prices and cheapest spells, without any program. What the laws share: the program's contracts at good arguments; boxes of two cells. -/
import Derived.Test.YtbenflnpnohcjaaGreatDoorTfChg
import Derived.Test.YtbenflnpnohcjaaGreatDoorTfPlain
import Derived.Test.YtbenflnpnohcjaaGreatDoorM2
namespace Go.Proofs.YtbenflnpnohcjaaGreatDoor.Tf

instance : Inhabited Pc := ⟨⟨0, 0, 0⟩⟩
theorem nextB_mem (l : List Int) (d : Int) : nextB l d = 86400 ∨ nextB l d ∈ l := by
  unfold nextB
  split
  · rename_i b hb
    exact .inr (List.mem_of_find?_eq_some hb)
  · exact .inl rfl

/-- Where the price changes there is a border. -/
theorem change_border {x : Tariff} (hx : okT x = true) {z t : Int} (h : price x z t ≠ price x z (t - 1)) :
    (t + z + 604800) % 86400 = 0 ∨ ∃ r ∈ x.rates, (t + z + 604800) % 86400 = r.frm ∨ (t + z + 604800) % 86400 = r.til := by
  have hr := loc_range z (t - 1)
  obtain ⟨n1, n2, n3⟩ := nextB_spec (chg_sorted x) (fun b hb => (chg_range hx b hb).2) (loc z (t - 1) % 86400) (by omega)
  have hc : ¬ t < t - 1 + nextB (chg x) (loc z (t - 1) % 86400) - loc z (t - 1) % 86400 := fun hlt =>
    h (price_same hx (chg_sorted x) (fun b hb => (chg_range hx b hb).2) (chg_covers x) (by omega) hlt)
  have e : (t + z + 604800) % 86400 = (loc z (t - 1) % 86400 + 1) % 86400 := by unfold loc; omega
  rcases nextB_mem (chg x) (loc z (t - 1) % 86400) with h1 | h1
  · left; omega
  · rcases (mem_chg _).1 h1 with h2 | ⟨r, hr', h2⟩
    · left; omega
    · have ok := (okRate_iff r).1 (((okT_iff x).1 hx).2.2 r hr')
      rcases h2 with h2 | h2
      · right; exact ⟨r, hr', .inl (by omega)⟩
      · by_cases h3 : r.til = 86400
        · left; omega
        · right; exact ⟨r, hr', .inr (by omega)⟩

/-- The pieces of a chain, one by one. -/
theorem Chain.get {f : Int → Int} : ∀ {l : List Pc} {a b : Int}, Chain f a b l → ∀ (i : Nat) (h : i < l.length),
    (l[i].frm < l[i].til ∧ a ≤ l[i].frm ∧ l[i].til ≤ b ∧ (∀ t, l[i].frm ≤ t → t < l[i].til → f t = l[i].price)) ∧ (i = 0 → l[i].frm = a) ∧ (∀ h' : i + 1 < l.length, l[i + 1].frm = l[i].til) ∧ (i + 1 = l.length → l[i].til = b)
  | [], _, _, _, i, h => by simp at h
  | p :: l, a, b, hc, 0, h => by
    obtain ⟨h1, h2, h3, h4, h5⟩ := hc
    simp only [List.getElem_cons_zero]
    refine ⟨⟨by omega, by omega, h3, fun t t1 t2 => h4 t (by omega) t2⟩, fun _ => h1, fun h' => ?_, fun h' => ?_⟩
    · simp only [List.length_cons] at h'
      have := (Chain.get h5 0 (by omega)).2.1 rfl
      simpa using this
    · simp only [List.length_cons] at h'
      have : l = [] := List.eq_nil_of_length_eq_zero (by omega)
      subst this
      exact h5
  | p :: l, a, b, hc, i + 1, h => by
    obtain ⟨h1, h2, h3, h4, h5⟩ := hc
    simp only [List.length_cons] at h
    obtain ⟨⟨g1, g2, g3, g4⟩, g5, g6, g7⟩ := Chain.get h5 i (by omega)
    simp only [List.getElem_cons_succ]
    refine ⟨⟨g1, by omega, g3, g4⟩, fun h' => by omega, fun h' => ?_, fun h' => ?_⟩
    · simp only [List.length_cons] at h'
      exact g6 (by omega)
    · simp only [List.length_cons] at h'
      exact g7 (by omega)
theorem Apart.get : ∀ {l : List Pc}, Apart l → ∀ (i : Nat) (h : i + 1 < l.length), l[i].price ≠ l[i + 1].price
  | [], _, i, h => by simp at h
  | [_], _, i, h => by simp at h
  | p :: q :: l, ha, 0, h => ha.1
  | p :: q :: l, ha, i + 1, h => by
    have := Apart.get (l := q :: l) ha.2 i (by simpa using h)
    simpa using this

/-- What the law on splits asks of each piece. -/
theorem runs_fact {x : Tariff} (hx : okT x = true) {z a b : Int} {l : List Pc} (h : Runs (price x z) a b l) (i : Nat) (hi : i < l.length) :
    l[i].frm < l[i].til ∧ a ≤ l[i].frm ∧ l[i].til ≤ b ∧ (i = 0 → l[i].frm = a) ∧ (∀ t, l[i].frm ≤ t → t < l[i].til → price x z t = l[i].price) ∧ (i + 1 = l.length → l[i].til = b) ∧
      (∀ k, i = k + 1 → l[i].frm = l[k]!.til ∧ l[i].price ≠ l[k]!.price ∧ ((l[i].frm + z + 604800) % 86400 = 0 ∨ ∃ r ∈ x.rates, (l[i].frm + z + 604800) % 86400 = r.frm ∨ (l[i].frm + z + 604800) % 86400 = r.til)) := by
  obtain ⟨⟨g1, g2, g3, g4⟩, g5, g6, g7⟩ := h.1.get i hi
  refine ⟨g1, g2, g3, g5, g4, g7, fun k hk => ?_⟩
  subst hk
  obtain ⟨⟨k1, k2, k3, k4⟩, k5, k6, k7⟩ := h.1.get k (by omega)
  have hp := h.2.get k hi
  have hf := k6 hi
  rw [getElem!_pos l k (by omega)]
  refine ⟨hf, fun e => hp e.symm, change_border hx ?_⟩
  rw [g4 _ (Int.le_refl _) g1, k4 _ (by omega) (by omega)]
  exact fun e => hp e.symm
end Go.Proofs.YtbenflnpnohcjaaGreatDoor.Tf

namespace Go.Proofs.YtbenflnpnohcjaaGreatDoor.Tf

/-- A week's sum is the same wherever the week begins. -/
theorem S_week_step (x : Tariff) (z t : Int) : S (price x z) (t + 1) (t + 1 + 604800) = S (price x z) t (t + 604800) := by
  have h1 : S (price x z) t (t + 1 + 604800) = S (price x z) t (t + 1) + S (price x z) (t + 1) (t + 1 + 604800) := S_add _ (by omega) (by omega)
  have h2 : S (price x z) t (t + 1 + 604800) = S (price x z) t (t + 604800) + S (price x z) (t + 604800) (t + 1 + 604800) := S_add _ (by omega) (by omega)
  have h3 : S (price x z) t (t + 1) = price x z t := S_one _ _
  have h4 : S (price x z) (t + 604800) (t + 1 + 604800) = price x z (t + 604800) := by
    have e : t + 1 + 604800 = t + 604800 + 1 := by omega
    rw [e]; exact S_one _ _
  rw [price_week] at h4
  omega
theorem S_week_up (x : Tariff) (z t : Int) : ∀ k : Nat, S (price x z) (t + k) (t + k + 604800) = S (price x z) t (t + 604800)
  | 0 => by simp
  | k + 1 => by
    have e : t + ((k + 1 : Nat) : Int) = t + k + 1 := by omega
    rw [e, S_week_step, S_week_up x z t k]
theorem S_week_any (x : Tariff) (z a b : Int) : S (price x z) a (a + 604800) = S (price x z) b (b + 604800) := by
  by_cases h : a ≤ b
  · have := S_week_up x z a (b - a).toNat
    have e : a + ((b - a).toNat : Int) = b := by omega
    rw [e] at this
    exact this.symm
  · have := S_week_up x z b (a - b).toNat
    have e : b + ((a - b).toNat : Int) = a := by omega
    rw [e] at this
    exact this
theorem S_later (x : Tariff) (z a b : Int) (k : Nat) : S (price x z) (a + 604800 * k) (b + 604800 * k) = S (price x z) a b :=
  (S_shift (f := price x z) (g := price x z) (d := 604800 * k) (fun t _ _ => (price_weeks x z t k).symm)).symm
theorem S_zone (x : Tariff) (z a b d : Int) : S (price x (z - d)) (a + d) (b + d) = S (price x z) a b :=
  (S_shift (f := price x z) (g := price x (z - d)) (d := d) (fun t _ _ => (price_zone x z t d).symm)).symm

/-- Rates whose prices are multiplied. -/
def timesR (m : Int) (r : Rate) : Rate := { r with price := m * r.price }
def times (m : Int) (x : Tariff) : Tariff := ⟨x.rates.map (timesR m), m * x.base⟩
theorem find_times (m s : Int) (l : List Rate) : (l.map (timesR m)).find? (has s) = (l.find? (has s)).map (timesR m) := by
  rw [List.find?_map]
  rfl
theorem rated_times (m : Int) (x : Tariff) (s : Int) : rated (times m x) s = m * rated x s := by
  unfold rated times
  simp only [find_times]
  cases x.rates.find? (has s) <;> rfl
theorem S_times (m : Int) (x : Tariff) (z a b : Int) : S (price (times m x) z) a b = m * S (price x z) a b := by
  rw [← S_mul]
  exact S_congr (fun t _ _ => rated_times m x (loc z t))

/-- Rates with lower prices. -/
inductive Low : List Rate → List Rate → Prop
  | nil : Low [] []
  | cons {r s : Rate} {l m : List Rate} : s.days = r.days → s.frm = r.frm → s.til = r.til → 0 ≤ s.price → s.price ≤ r.price → Low l m → Low (r :: l) (s :: m)
theorem Low.snoc {l m : List Rate} {r s : Rate} (h : Low l m) (h1 : s.days = r.days) (h2 : s.frm = r.frm) (h3 : s.til = r.til) (h4 : 0 ≤ s.price) (h5 : s.price ≤ r.price) : Low (l ++ [r]) (m ++ [s]) := by
  induction h with
  | nil => exact .cons h1 h2 h3 h4 h5 .nil
  | cons a b c d e _ ih => exact .cons a b c d e ih
theorem Low.length {l m : List Rate} (h : Low l m) : m.length = l.length := by
  induction h with
  | nil => rfl
  | cons _ _ _ _ _ _ ih => simp [ih]
theorem Low.ok {l m : List Rate} (h : Low l m) (hl : ∀ r ∈ l, okRate r = true) : ∀ r ∈ m, okRate r = true := by
  induction h with
  | nil => intro r hr; cases hr
  | @cons r s l m a b c d e _ ih =>
    intro q hq
    rcases List.mem_cons.1 hq with rfl | hq
    · have h0 := (okRate_iff r).1 (hl r (by simp))
      rw [okRate_iff]
      omega
    · exact ih (fun x hx => hl x (by simp [hx])) q hq
theorem Low.rated {l m : List Rate} (h : Low l m) (base s : Int) : rated ⟨m, base⟩ s ≤ rated ⟨l, base⟩ s := by
  induction h with
  | nil => exact Int.le_refl _
  | @cons r q l m a b c d e _ ih =>
    unfold Tf.rated at *
    have hh : has s q = has s r := by unfold has; rw [a, b, c]
    simp only [List.find?_cons, hh] at *
    cases has s r with
    | true => exact e
    | false => exact ih
theorem S_low {l m : List Rate} (h : Low l m) (base z a b : Int) : S (price ⟨m, base⟩ z) a b ≤ S (price ⟨l, base⟩ z) a b :=
  S_le (fun t _ _ => h.rated base (loc z t))
theorem low_ok {l m : List Rate} (h : Low l m) {base : Int} (hx : okT ⟨l, base⟩ = true) : okT ⟨m, base⟩ = true := by
  rw [okT_iff] at *
  exact ⟨hx.1, by show m.length ≤ 10; rw [h.length]; exact hx.2.1, h.ok hx.2.2⟩
theorem times_ok {m : Int} {x : Tariff} (hx : okT x = true) (h0 : 0 ≤ m) (h1 : m ≤ 1000) (hb : x.base ≤ 1000) (hr : ∀ r ∈ x.rates, r.price ≤ 1000) : okT (times m x) = true := by
  rw [okT_iff] at *
  obtain ⟨⟨b0, b1⟩, hl, ha⟩ := hx
  refine ⟨⟨Int.mul_nonneg h0 b0, ?_⟩, by simpa [times] using hl, ?_⟩
  · show m * x.base ≤ _
    have := Int.mul_le_mul h1 hb b0 (by omega)
    omega
  · intro r hr'
    obtain ⟨q, hq, rfl⟩ := List.mem_map.1 (show r ∈ x.rates.map (timesR m) from hr')
    have h3 := (okRate_iff q).1 (ha q hq)
    rw [okRate_iff]
    have h4 : 0 ≤ m * q.price := Int.mul_nonneg h0 (by omega)
    have h5 := Int.mul_le_mul h1 (hr q hq) (by omega : 0 ≤ q.price) (by omega)
    simp only [timesR]
    omega

/-- A window that is longer has no dearer cheapest spell. -/
theorem First.wider {f : Int → Int} {n a b b' t t' : Int} (h : First f n a b t) (h' : First f n a b' t') (hb : b ≤ b') : win f n t' ≤ win f n t := by
  obtain ⟨h1, h2, _⟩ := h
  have := h'.2.2 t h1 (by omega)
  omega
theorem First.le {f : Int → Int} {n a b t s : Int} (h : First f n a b t) (h1 : a ≤ s) (h2 : s ≤ b) : win f n t ≤ win f n s ∧ (t ≤ s ∨ win f n t < win f n s) := by
  have := h.2.2 s h1 h2
  omega
end Go.Proofs.YtbenflnpnohcjaaGreatDoor.Tf

namespace Go.Proofs.YtbenflnpnohcjaaGreatDoor
open Go.RowKit Go.Shelf

theorem good_of {x : Tf.Tariff} (hx : Tf.okT x = true) {z a b : Int} (hz : -50400 ≤ z ∧ z ≤ 50400) (h0 : 0 ≤ a) (hab : a ≤ b) (h1 : b ≤ 10000000) : goodB x z a b = true := by
  simp only [goodB, zoneB, spellB, Bool.and_eq_true, decide_eq_true_eq, inB_iff]
  exact ⟨hx, hz, h0, hab, h1⟩

/-- A tariff in memory, as a value: its rates' address and capacity. -/
structure TarAt (W : World) (x : Tf.Tariff) (A : Option Addr) : Prop where
  ok : Tf.okT x = true
  rates : RatesAt W A x.rates
theorem TarAt.below {W W' : World} {x : Tf.Tariff} {A : Option Addr} (h : TarAt W x A) (hb : Below W.heap.size W W') : TarAt W' x A := ⟨h.ok, h.rates.below hb⟩
theorem TarAt.len {W : World} {x : Tf.Tariff} {A : Option Addr} (h : TarAt W x A) : x.rates.length ≤ 9223372036854775807 := by
  have := ((Tf.okT_iff x).1 h.ok).2.1
  omega

theorem sum_ok {W : World} {x : Tf.Tariff} {A : Option Addr} (h : TarAt W x A) (c : Nat) (z a b : Int) (hz : -50400 ≤ z ∧ z ≤ 50400) (h0 : 0 ≤ a) (hab : a ≤ b) (h1 : b ≤ 10000000) :
    Calls Tryz.prog 24 #[.agg #[.slice A x.rates.length c, .int .i64 x.base], .int .i64 z, .agg #[.int .i64 a, .int .i64 b]] W fun e w' => e = .returned (.tuple #[.int .i64 (Tf.S (Tf.price x z) a b), .int .i64 0]) ∧ Below W.heap.size W w' := by
  have := sumT_any A c x h.len z a b W h.rates
  rw [if_pos (good_of h.ok hz h0 hab h1)] at this
  exact this
theorem amount_ok {W : World} {x : Tf.Tariff} {A : Option Addr} (h : TarAt W x A) (c : Nat) (z a b : Int) (hz : -50400 ≤ z ∧ z ≤ 50400) (h0 : 0 ≤ a) (hab : a ≤ b) (h1 : b ≤ 10000000) :
    Calls Tryz.prog 26 #[.agg #[.slice A x.rates.length c, .int .i64 x.base], .int .i64 z, .agg #[.int .i64 a, .int .i64 b]] W fun e w' => e = .returned (.tuple #[.int .i64 (amt x z a b), .int .i64 0]) ∧ Below W.heap.size W w' := by
  have := amount_any A c x h.len z a b W h.rates
  rw [if_pos (good_of h.ok hz h0 hab h1)] at this
  exact this
theorem price_ok {W : World} {x : Tf.Tariff} {A : Option Addr} (h : TarAt W x A) (c : Nat) (z t : Int) (hz : -50400 ≤ z ∧ z ≤ 50400) (h0 : 0 ≤ t) (h1 : t ≤ 10000000) :
    Calls Tryz.prog 21 #[.agg #[.slice A x.rates.length c, .int .i64 x.base], .int .i64 z, .int .i64 t] W fun e w' => e = .returned (.tuple #[.int .i64 (Tf.price x z t), .int .i64 0]) ∧ Below W.heap.size W w' := by
  have := price_any A c x h.len z t W h.rates
  rw [if_pos (by simp only [zoneB, Bool.and_eq_true, inB_iff]; exact ⟨h.ok, hz, h0, h1⟩)] at this
  exact this
theorem cheapest_ok {W : World} {x : Tf.Tariff} {A : Option Addr} (h : TarAt W x A) (c : Nat) (z a b n : Int) (hz : -50400 ≤ z ∧ z ≤ 50400) (h0 : 0 ≤ a) (hab : b - a ≤ 100000) (h1 : b ≤ 10000000) (hn : 1 ≤ n) (hn2 : n ≤ b - a) :
    Calls Tryz.prog 37 #[.agg #[.slice A x.rates.length c, .int .i64 x.base], .int .i64 z, .agg #[.int .i64 a, .int .i64 b], .int .i64 n] W fun e w' => (∃ t, e = .returned (.tuple #[.int .i64 t, .int .i64 (Tf.win (Tf.price x z) n t), .int .i64 0]) ∧ Tf.First (Tf.price x z) n a (b - n) t) ∧ Below W.heap.size W w' := by
  refine (cheapest_any A c x h.len z a b n W h.rates).mono ?_
  rintro e w' ⟨hr, hb⟩
  rw [show cheapB x z a b n = true by simp only [cheapB, Bool.and_eq_true, decide_eq_true_eq, inB_iff]; exact ⟨good_of h.ok hz h0 (by omega) h1, hab, hn, hn2⟩] at hr
  obtain ⟨t, h1, h2⟩ := hr
  exact ⟨⟨t, h2, h1⟩, hb⟩
theorem splits_ok {W : World} {x : Tf.Tariff} {A : Option Addr} (h : TarAt W x A) (c : Nat) (z a b : Int) (hz : -50400 ≤ z ∧ z ≤ 50400) (h0 : 0 ≤ a) (hab : a ≤ b) (h1 : b ≤ 10000000) :
    Calls Tryz.prog 30 #[.agg #[.slice A x.rates.length c, .int .i64 x.base], .int .i64 z, .agg #[.int .i64 a, .int .i64 b]] W fun e w' => (∃ l A' c', e = .returned (.tuple #[.slice A' l.length c', .int .i64 0]) ∧ PcsAt w' A' l ∧ Tf.Runs (Tf.price x z) a b l) ∧ Below W.heap.size W w' := by
  have := splits_any A c x h.len z a b W h.rates
  rw [if_pos (good_of h.ok hz h0 hab h1), if_pos (good_of h.ok hz h0 hab h1)] at this
  refine this.mono ?_
  rintro e w' ⟨⟨v, rfl, hv⟩, hb⟩
  obtain ⟨A', c', rfl, hp⟩ := pcsAt_own hv
  exact ⟨⟨_, A', c', rfl, hp, Tf.merged_runs (Tf.pcsT_chain h.ok z hab)⟩, hb⟩

theorem made_ok {W : World} (A : Option Addr) (n c : Nat) (y : Nat → Nat → Int) (bs : Int) (hb : -9223372036854775808 ≤ bs ∧ bs ≤ 9223372036854775807) (hX : XsAt W A n y) (hn : n ≤ 9223372036854775807) :
    Calls Tryz.prog 15 #[.int .i64 bs, .slice A n c] W fun e w' => (∃ x A' c', e = .returned (.agg #[.slice A' x.rates.length c', .int .i64 x.base]) ∧ TarAt w' x A' ∧ x.base < 1000 ∧ (∀ r ∈ x.rates, r.price < 1000) ∧ x.rates.length ≤ 6) ∧ Below W.heap.size W w' :=
  (made_any A n c y bs hb.1 hb.2 W hX hn).mono fun _ _ ⟨⟨x, h1, h2, h3, h4, A', c', he, hR⟩, hB⟩ => ⟨⟨x, A', c', he, ⟨h1, hR⟩, h2, h3, h4⟩, hB⟩

def rng (z : Int) : Prop := -9223372036854775808 ≤ z ∧ z ≤ 9223372036854775807

theorem lpick_any (x n : Int) (hx : rng x) (hn : 0 < n) (hn2 : n ≤ 1000000000) (w : World) :
    Calls Tryz.prog 36 #[.int .i64 x, .int .i64 n] w fun e w' => (∃ r, e = .returned (.int .i64 r) ∧ 0 ≤ r ∧ r < n) ∧ w = w' := by
  obtain ⟨h0, h1⟩ := hx
  have hnz : (n == 0) = false := by rw [beq_eq_false_iff_ne]; omega
  have hn1 : (n == -1) = false := by rw [beq_eq_false_iff_ne]; omega
  by_cases hx : x < 0
  · obtain ⟨y, hy⟩ : ∃ y, -(x + 1) = y := ⟨_, rfl⟩
    have hy0 : 0 ≤ y ∧ y ≤ 9223372036854775807 := by omega
    obtain ⟨r, hr⟩ : ∃ r, Int.tmod y n = r := ⟨_, rfl⟩
    have hr2 : 0 ≤ r ∧ r < n := by
      rw [← hr, Int.tmod_eq_emod_of_nonneg hy0.1]
      exact ⟨Int.emod_nonneg _ (by omega), Int.emod_lt_of_pos _ hn⟩
    have hyr : 0 ≤ Int.tmod y n ∧ Int.tmod y n < n := by rw [hr]; exact hr2
    have HR := Lib.hid hr2
    clear hyr
    go_enter Tryz.func36, Tryz.ntmps36
    go_wp2
    go_ret
    exact ⟨⟨r, rfl, HR.out.1, HR.out.2⟩, rfl⟩
  · obtain ⟨r, hr⟩ : ∃ r, Int.tmod x n = r := ⟨_, rfl⟩
    have hr2 : 0 ≤ r ∧ r < n := by
      rw [← hr, Int.tmod_eq_emod_of_nonneg (by omega)]
      exact ⟨Int.emod_nonneg _ (by omega), Int.emod_lt_of_pos _ hn⟩
    have HR := Lib.hid hr2
    go_enter Tryz.func36, Tryz.ntmps36
    go_wp2
    go_ret
    exact ⟨⟨r, rfl, HR.out.1, HR.out.2⟩, rfl⟩

theorem Tryz.fld28 (a b : Int) (w : World) : (Instr.field 28 (.agg #[.int .i64 a, .int .i64 b]) 0).run Tryz.prog w = .ok (.int .i64 a) w := by kernel_rfl

/-- What lies in a world lies behind a call made past a new block. -/
theorem step_cell {W W' : World} {o : Obj} {p : Addr} {u : Value} (h : Below (W.alloc o).heap.size (W.alloc o) W') (hc : W.cell? p = some u) : W'.cell? p = some u :=
  cell_below h (cell_below (below_al1 W o) hc)

/-- What a law has laid: the tariff's box, and the spell's. -/
structure Ctx (w W : World) (x : Tf.Tariff) (A : Option Addr) (c B1 : Nat) : Prop where
  below : Below w.heap.size w W
  tar : TarAt W x A
  x0 : W.cell? ⟨B1, 0, none⟩ = some (.slice A x.rates.length c)
  x1 : W.cell? ⟨B1, 1, none⟩ = some (.int .i64 x.base)
theorem Ctx.go {w W W' : World} {x : Tf.Tariff} {A : Option Addr} {c B1 : Nat} (h : Ctx w W x A c B1) (hb : Below W.heap.size W W') : Ctx w W' x A c B1 :=
  ⟨h.below.trans (hb.mono h.below.size), h.tar.below hb, cell_below hb h.x0, cell_below hb h.x1⟩
theorem Ctx.new {w W W1 : World} {x : Tf.Tariff} {A : Option Addr} {c : Nat} (h0 : Below w.heap.size w W) (hb : Below W.heap.size W W1) (hT : TarAt W1 x A) :
    Ctx w (W1.alloc (.cells #[.slice A x.rates.length c, .int .i64 x.base] 26)) x A c W1.heap.size := by
  have h1 := below_al1 W1 (.cells #[.slice A x.rates.length c, .int .i64 x.base] 26)
  have h2 := h0.trans (hb.mono h0.size)
  exact ⟨h2.trans (h1.mono h2.size), hT.below h1, by simp [go_sem], by simp [go_sem]⟩

theorem rounds_fact {x : Tf.Tariff} (hx : Tf.okT x = true) (z : Int) {a b : Int} (h0 : 0 ≤ a) (hab : a ≤ b) (h1 : b ≤ a + 345600) :
    0 ≤ Tf.S (Tf.price x z) a b ∧ Tf.S (Tf.price x z) a b ≤ 345600000000 ∧ 0 ≤ amt x z a b ∧ amt x z a b ≤ 345600000000 ∧ 60 * amt x z a b - Tf.S (Tf.price x z) a b < 60 ∧ Tf.S (Tf.price x z) a b - 60 * amt x z a b < 60 := by
  have e1 := Tf.sum_bounds hx z hab
  have e2 := Tf.sum_bounds hx z h0
  have e3 := Tf.S_add (Tf.price x z) h0 hab
  unfold amt
  rw [e3]
  generalize Tf.S (Tf.price x z) a b = s at *
  generalize Tf.S (Tf.price x z) 0 a = t at *
  omega
end Go.Proofs.YtbenflnpnohcjaaGreatDoor
