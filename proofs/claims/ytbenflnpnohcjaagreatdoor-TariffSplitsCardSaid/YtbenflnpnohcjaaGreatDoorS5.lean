/- Plain law: the example's tariff. The law's example, and sane. The law's sane is true. The walk of the law's sane. -/
import Derived.Test.YtbenflnpnohcjaaGreatDoorS2
import Derived.Deep.RegionHeld3
namespace Go.Proofs.YtbenflnpnohcjaaGreatDoor

def ex : Tf.Tariff := ⟨[⟨96, 0, 86400, 60⟩, ⟨127, 0, 28800, 120⟩], 600⟩
theorem ex_ok : Tf.okT ex = true := by decide
theorem ex_p1 {t : Int} (h0 : 0 ≤ t) (h1 : t < 25200) : Tf.price ex 3600 t = 120 := by
  have hl : Tf.loc 3600 t = t + 3600 := by unfold Tf.loc; omega
  have hd : (t + 3600) / 86400 = 0 := by omega
  have hm : (t + 3600) % 86400 = t + 3600 := by omega
  unfold Tf.price Tf.rated ex
  rw [hl]
  simp only [List.find?, Tf.has, hd, hm]
  have e1 : decide ((0 : Int) ≤ t + 3600) = true := by simp; omega
  have e2 : decide (t + 3600 < 28800) = true := by simp; omega
  rw [e1, e2]
  rfl
theorem ex_p2 {t : Int} (h0 : 25200 ≤ t) (h1 : t < 82800) : Tf.price ex 3600 t = 600 := by
  have hl : Tf.loc 3600 t = t + 3600 := by unfold Tf.loc; omega
  have hd : (t + 3600) / 86400 = 0 := by omega
  have hm : (t + 3600) % 86400 = t + 3600 := by omega
  unfold Tf.price Tf.rated ex
  rw [hl]
  simp only [List.find?, Tf.has, hd, hm]
  have e1 : decide ((0 : Int) ≤ t + 3600) = true := by simp; omega
  have e2 : decide (t + 3600 < 28800) = false := by simp; omega
  rw [e1, e2]
  rfl
theorem ex_S1 {a b : Int} (h0 : 0 ≤ a) (hab : a ≤ b) (h1 : b ≤ 25200) : Tf.S (Tf.price ex 3600) a b = 120 * (b - a) := Tf.S_const hab (fun t h2 h3 => ex_p1 (by omega) (by omega))
theorem ex_S2 {a b : Int} (h0 : 25200 ≤ a) (hab : a ≤ b) (h1 : b ≤ 82800) : Tf.S (Tf.price ex 3600) a b = 600 * (b - a) := Tf.S_const hab (fun t h2 h3 => ex_p2 (by omega) (by omega))
theorem ex_S3 {a b : Int} (h0 : 0 ≤ a) (hab : a ≤ 25200) (h1 : 25200 ≤ b) (h2 : b ≤ 82800) : Tf.S (Tf.price ex 3600) a b = 120 * (25200 - a) + 600 * (b - 25200) := by
  rw [Tf.S_add (b := 25200) _ hab h1, ex_S1 h0 hab (by omega), ex_S2 (by omega) h1 h2]
theorem ex_prices : Tf.price ex 3600 0 = 120 ∧ Tf.price ex 3600 25199 = 120 ∧ Tf.price ex 3600 25200 = 600 ∧ Tf.price ex 3600 428399 = 600 ∧ Tf.price ex 3600 428400 = 60 := by decide
theorem ex_sum : Tf.S (Tf.price ex 3600) 25190 25210 = 7200 := by rw [ex_S3 (by decide) (by decide) (by decide) (by decide)]; decide
theorem ex_amt : amt ex 3600 25190 25210 = 120 ∧ amt ex 3600 25190 25195 = 10 ∧ amt ex 3600 25195 25210 = 110 := by
  unfold amt
  rw [ex_S3 (a := 0) (b := 25210) (by decide) (by decide) (by decide) (by decide), ex_S1 (a := 0) (b := 25190) (by decide) (by decide) (by decide), ex_S1 (a := 0) (b := 25195) (by decide) (by decide) (by decide)]
  decide
theorem ex_exact : Tf.S (Tf.price ex 3600) 0 5 = 600 := by rw [ex_S1 (by decide) (by decide) (by decide)]; decide
theorem ex_mids : Tf.midnights 3600 0 200000 = [82800, 169200] := by decide
theorem two_of {l : List Int} (hs : l.Pairwise (· < ·)) (hm : ∀ b, b ∈ l ↔ b = 0 ∨ b = 28800) : l = [0, 28800] := by
  have h0 := (hm 0).2 (.inl rfl)
  have h1 := (hm 28800).2 (.inr rfl)
  match l, hs with
  | [], _ => simp at h0
  | [a], _ => simp at h0 h1; omega
  | [a, b], hs =>
    have h2 := (hm a).1 (by simp)
    have h3 := (hm b).1 (by simp)
    simp at hs h0 h1
    have : a = 0 ∧ b = 28800 := by omega
    rw [this.1, this.2]
  | a :: b :: c :: t, hs =>
    have h2 := (hm a).1 (by simp)
    have h3 := (hm b).1 (by simp)
    have h4 := (hm c).1 (by simp)
    simp only [List.pairwise_cons] at hs
    have h5 := hs.1 b (by simp)
    have h6 := hs.2.1 c (by simp)
    omega
theorem ex_chg : Tf.chg ex = [0, 28800] := two_of (Tf.chg_sorted ex) (fun b => by
  rw [Tf.mem_chg]
  unfold ex
  simp)
theorem ex_merged : Tf.merged (Tf.pcsT ex 3600 25190 25210) = [⟨25190, 25200, 120⟩, ⟨25200, 25210, 600⟩] := by
  rw [Tf.pcsT_step ex ex_ok 3600 (by decide), show Tf.upTo (Tf.chg ex) 3600 25210 25190 = 25200 by rw [ex_chg]; decide, Tf.pcsT_step ex ex_ok 3600 (by decide), show Tf.upTo (Tf.chg ex) 3600 25210 25200 = 25210 by rw [ex_chg]; decide, Tf.pcsT_nil ex 3600 (by decide), ex_p1 (by decide) (by decide), ex_p2 (by decide) (by decide)]
  rfl
theorem ex_first {t : Int} (h : Tf.First (Tf.price ex 3600) 60 20000 (30000 - 60) t) : t = 20000 ∧ Tf.win (Tf.price ex 3600) 60 t = 7200 := by
  obtain ⟨h1, h2, h3⟩ := h
  have w0 : Tf.win (Tf.price ex 3600) 60 20000 = 7200 := by
    unfold Tf.win
    rw [ex_S1 (by decide) (by decide) (by decide)]
    decide
  have hge : 7200 ≤ Tf.win (Tf.price ex 3600) 60 t := by
    have hle := Tf.S_le (f := fun _ => 120) (g := Tf.price ex 3600) (a := t) (b := t + 60) (fun u hu1 hu2 => by
      by_cases hu : u < 25200
      · rw [ex_p1 (by omega) hu]; omega
      · rw [ex_p2 (by omega) (by omega)]; omega)
    rw [Tf.S_const (c := 120) (by omega) (fun _ _ _ => rfl)] at hle
    unfold Tf.win
    omega
  have := h3 20000 (by omega) (by omega)
  rw [w0] at this
  have ht : t = 20000 := by omega
  exact ⟨ht, by rw [ht]; exact w0⟩
end Go.Proofs.YtbenflnpnohcjaaGreatDoor

namespace Go.Proofs.YtbenflnpnohcjaaGreatDoor
open Go.RowKit Go.Shelf

theorem example_any (w : World) : Calls Tryz.prog 44 #[] w fun e w' => (∃ A c, e = .returned (.agg #[.slice A 2 c, .int .i64 600]) ∧ RatesAt w' A ex.rates) ∧ Below w.heap.size w w' := by
  go_enter Tryz.func44, Tryz.ntmps44
  go_wp2
  have t1 : ((w.alloc (.cells #[.slice (some ⟨w.heap.size + 1, 0, none⟩) 2 2, .int .i64 600] 26)).alloc (.cells #[.int .i64 96, .int .i64 0, .int .i64 86400, .int .i64 60, .int .i64 127, .int .i64 0, .int .i64 28800, .int .i64 120] 68)).heap[w.heap.size]? = some (.cells #[.slice (some ⟨w.heap.size + 1, 0, none⟩) 2 2, .int .i64 600] 26 (0, 0)) := by
    rw [heap_past' _ _ (by simp), heap_at' _ _ rfl]
  have t2 : ((w.alloc (.cells #[.slice (some ⟨w.heap.size + 1, 0, none⟩) 2 2, .int .i64 600] 26)).alloc (.cells #[.int .i64 96, .int .i64 0, .int .i64 86400, .int .i64 60, .int .i64 127, .int .i64 0, .int .i64 28800, .int .i64 120] 68)).heap[w.heap.size + 1]? = some (.cells #[.int .i64 96, .int .i64 0, .int .i64 86400, .int .i64 60, .int .i64 127, .int .i64 0, .int .i64 28800, .int .i64 120] 68 (0, 0)) := heap_at' _ _ (by simp)
  refine bodyPost_ret (results_cell_row rfl _ _ _ _ _ _ _ rfl t1 Tryz.underlying26 rfl (by kernel_rfl)) rfl ⟨⟨some ⟨w.heap.size + 1, 0, none⟩, 2, rfl, ?_⟩, below_al2 _ _ _⟩
  refine .inr ⟨w.heap.size + 1, 0, rfl, by simp, ?_⟩
  intro j hj i v hi
  have hj2 : j < 2 := hj
  simp only [World.cell?, t2]
  have hj3 : j = 0 ∨ j = 1 := by omega
  rcases hj3 with rfl | rfl
  · match i, hi with
    | 0, hi => simp [ex, encR] at hi; subst hi; rfl
    | 1, hi => simp [ex, encR] at hi; subst hi; rfl
    | 2, hi => simp [ex, encR] at hi; subst hi; rfl
    | 3, hi => simp [ex, encR] at hi; subst hi; rfl
    | i + 4, hi => simp [ex, encR] at hi
  · match i, hi with
    | 0, hi => simp [ex, encR] at hi; subst hi; rfl
    | 1, hi => simp [ex, encR] at hi; subst hi; rfl
    | 2, hi => simp [ex, encR] at hi; subst hi; rfl
    | 3, hi => simp [ex, encR] at hi; subst hi; rfl
    | i + 4, hi => simp [ex, encR] at hi

theorem Tryz.eqRatio (a b : ByteArray) (w : World) : (binOp .eql 44 (.agg #[.string a, .string b]) (.agg #[.string a, .string b])).run Tryz.prog w = .ok (.bool true) w := by
  obtain ⟨d, hd⟩ : ∃ d : Nat, (10000 : Nat) = d + 1 + 1 + 1 := ⟨9997, rfl⟩
  rw [run_eql_struct, hd, run_equalIn_agg w (d + 1 + 1) 44 _ _ (by kernel_rfl) (by kernel_rfl)]
  clear hd
  simp only [Program.fieldsOf, Tryz.underlying44]
  have u9 := Tryz.underlying9
  have a9 := Tryz.isAgg9
  have z9 := Tryz.sizeOf9
  go_simp

theorem slAt_own {w : World} {base : Nat} {v : Value} {l : List Int} (h : OwnsInts w base v l) : ∃ A c, v = .slice A l.length c ∧ SlAt w A l := by
  obtain ⟨A, c, h1, h2, _⟩ := slAt_owns h
  exact ⟨A, c, h1, h2⟩
theorem pcsAt_own {w : World} {base : Nat} {v : Value} {l : List Tf.Pc} (h : OwnsPcs w base v l) : ∃ A c, v = .slice A l.length c ∧ PcsAt w A l := by
  have h' := h
  unfold OwnsPcs at h'
  rcases h'.2 with ⟨h1, h2⟩ | ⟨g, cap, cur, h1, h2, h3, _⟩
  · exact ⟨none, 0, by rw [h1, h2], .inl (List.eq_nil_of_length_eq_zero h2)⟩
  · refine ⟨some ⟨g, 0, none⟩, cap, h1, .inr ⟨g, rfl, (Array.getElem?_eq_some_iff.1 h3).1, ?_⟩⟩
    intro j p hj i x hi
    rw [h1] at h'
    have hjl := (List.getElem?_eq_some_iff.1 hj).1
    have hi3 : i < 3 := by
      have := (List.getElem?_eq_some_iff.1 hi).1
      simpa [cellsP] using this
    have hc := h'.cellAt (j * 3 + i) (by omega)
    have hg : (flatP l)[j * 3 + i]? = some x := by
      obtain ⟨l1, l2, rfl, hl1⟩ : ∃ l1 l2, l = l1 ++ p :: l2 ∧ l1.length = j := by
        have := List.getElem?_eq_some_iff.1 hj
        exact ⟨l.take j, l.drop (j + 1), by rw [← this.2, List.getElem_cons_drop hjl, List.take_append_drop], by simp; omega⟩
      subst hl1
      rw [flatP_append, List.getElem?_append_right (by rw [flatP_length]; omega), flatP_length]
      have e : flatP (p :: l2) = cellsP p ++ flatP l2 := rfl
      rw [e, show l1.length * 3 + i - l1.length * 3 = i by omega, List.getElem?_append_left (by simp [cellsP]; omega)]
      exact hi
    rw [hg] at hc
    exact hc
end Go.Proofs.YtbenflnpnohcjaaGreatDoor

namespace Go.Proofs.YtbenflnpnohcjaaGreatDoor
open Go.RowKit Go.Shelf

/-- What the calls of sane return: each in every later world. -/
structure SaneC (W : World) (A : Option Addr) (c : Nat) : Prop where
  price : ∀ W', Below W.heap.size W W' → ∀ t p : Int, 0 ≤ t → t ≤ 10000000 → Tf.price ex 3600 t = p → Calls Tryz.prog 21 #[.agg #[.slice A 2 c, .int .i64 600], .int .i64 3600, .int .i64 t] W' fun e w' => e = .returned (.tuple #[.int .i64 p, .int .i64 0]) ∧ Below W'.heap.size W' w'
  zone : ∀ W', Below W.heap.size W W' → Calls Tryz.prog 21 #[.agg #[.slice A 2 c, .int .i64 600], .int .i64 50401, .int .i64 0] W' fun e w' => e = .returned (.tuple #[.int .i64 0, .int .i64 370]) ∧ Below W'.heap.size W' w'
  sum : ∀ W', Below W.heap.size W W' → Calls Tryz.prog 24 #[.agg #[.slice A 2 c, .int .i64 600], .int .i64 3600, .agg #[.int .i64 25190, .int .i64 25210]] W' fun e w' => e = .returned (.tuple #[.int .i64 7200, .int .i64 0]) ∧ Below W'.heap.size W' w'
  all : ∀ W', Below W.heap.size W W' → Calls Tryz.prog 26 #[.agg #[.slice A 2 c, .int .i64 600], .int .i64 3600, .agg #[.int .i64 25190, .int .i64 25210]] W' fun e w' => e = .returned (.tuple #[.int .i64 120, .int .i64 0]) ∧ Below W'.heap.size W' w'
  one : ∀ W', Below W.heap.size W W' → Calls Tryz.prog 26 #[.agg #[.slice A 2 c, .int .i64 600], .int .i64 3600, .agg #[.int .i64 25190, .int .i64 25195]] W' fun e w' => e = .returned (.tuple #[.int .i64 10, .int .i64 0]) ∧ Below W'.heap.size W' w'
  two : ∀ W', Below W.heap.size W W' → Calls Tryz.prog 26 #[.agg #[.slice A 2 c, .int .i64 600], .int .i64 3600, .agg #[.int .i64 25195, .int .i64 25210]] W' fun e w' => e = .returned (.tuple #[.int .i64 110, .int .i64 0]) ∧ Below W'.heap.size W' w'
  exact : ∀ W', Below W.heap.size W W' → Calls Tryz.prog 28 #[.agg #[.slice A 2 c, .int .i64 600], .int .i64 3600, .agg #[.int .i64 0, .int .i64 5]] W' fun e w' => e = .returned (.tuple #[.agg #[.string (Nm.Tx 10), .string (Nm.Tx 1)], .int .i64 0]) ∧ Below W'.heap.size W' w'
  ten : ∀ W', Calls Tryz.prog 45 #[.int .i64 10, .int .i64 1] W' fun e w' => e = .returned (.tuple #[.agg #[.string (Nm.Tx 10), .string (Nm.Tx 1)], .int .i64 0]) ∧ Below W'.heap.size W' w'
  splits : ∀ W', Below W.heap.size W W' → Calls Tryz.prog 30 #[.agg #[.slice A 2 c, .int .i64 600], .int .i64 3600, .agg #[.int .i64 25190, .int .i64 25210]] W' fun e w' => (∃ A' c', e = .returned (.tuple #[.slice A' 2 c', .int .i64 0]) ∧ PcsAt w' A' [⟨25190, 25200, 120⟩, ⟨25200, 25210, 600⟩]) ∧ Below W'.heap.size W' w'
  mids : ∀ W', Calls Tryz.prog 32 #[.int .i64 3600, .agg #[.int .i64 0, .int .i64 200000]] W' fun e w' => (∃ A' c', e = .returned (.tuple #[.slice A' 2 c', .int .i64 0]) ∧ SlAt w' A' [82800, 169200]) ∧ Below W'.heap.size W' w'
  cheap : ∀ W', Below W.heap.size W W' → Calls Tryz.prog 37 #[.agg #[.slice A 2 c, .int .i64 600], .int .i64 3600, .agg #[.int .i64 20000, .int .i64 30000], .int .i64 60] W' fun e w' => e = .returned (.tuple #[.int .i64 20000, .int .i64 7200, .int .i64 0]) ∧ Below W'.heap.size W' w'
  valid : ∀ W', Below W.heap.size W W' → Calls Tryz.prog 18 #[.agg #[.slice A 2 c, .int .i64 600]] W' fun e w' => e = .returned (.bool true) ∧ Below W'.heap.size W' w'
  bad : ∀ W', Calls Tryz.prog 18 #[.agg #[.slice none 0 0, .int .i64 (-1)]] W' fun e w' => e = .returned (.bool false) ∧ Below W'.heap.size W' w'

theorem saneC (W : World) (A : Option Addr) (c : Nat) (hR : RatesAt W A ex.rates) (ht : Tab W) : SaneC W A c where
  price := fun W' h t p h0 h1 hp => by
    have := price_any A c ex (by decide) 3600 t W' (hR.below h)
    rw [if_pos (by rw [ex_ok, show zoneB 3600 = true by decide, inB_iff.2 ⟨h0, h1⟩]; rfl), hp] at this
    exact this
  zone := fun W' h => by
    have := price_any A c ex (by decide) 50401 0 W' (hR.below h)
    rw [if_neg (by decide)] at this
    exact this
  sum := fun W' h => by
    have := sumT_any A c ex (by decide) 3600 25190 25210 W' (hR.below h)
    rw [if_pos (by decide), ex_sum] at this
    exact this
  all := fun W' h => by
    have := amount_any A c ex (by decide) 3600 25190 25210 W' (hR.below h)
    rw [if_pos (by decide), ex_amt.1] at this
    exact this
  one := fun W' h => by
    have := amount_any A c ex (by decide) 3600 25190 25195 W' (hR.below h)
    rw [if_pos (by decide), ex_amt.2.1] at this
    exact this
  two := fun W' h => by
    have := amount_any A c ex (by decide) 3600 25195 25210 W' (hR.below h)
    rw [if_pos (by decide), ex_amt.2.2] at this
    exact this
  exact := fun W' h => by
    have := exact_any A c ex (by decide) 3600 0 5 W' (hR.below h) (ht.below h)
    rw [if_pos (by decide), ex_exact] at this
    exact this
  ten := fun W' => ofD_any 10 1 (by decide) (by decide) (by decide) W'
  splits := fun W' h => by
    refine (splits_any A c ex (by decide) 3600 25190 25210 W' (hR.below h)).mono ?_
    rintro e w' ⟨⟨v, rfl, hv⟩, hb⟩
    rw [if_pos (by decide), ex_merged] at hv
    obtain ⟨A', c', rfl, h2⟩ := pcsAt_own hv
    exact ⟨⟨A', c', rfl, h2⟩, hb⟩
  mids := fun W' => by
    refine (midnights_any 3600 0 200000 W').mono ?_
    rintro e w' ⟨⟨v, rfl, hv⟩, hb⟩
    rw [if_pos (by decide), ex_mids] at hv
    obtain ⟨A', c', rfl, h2⟩ := slAt_own hv
    exact ⟨⟨A', c', rfl, h2⟩, hb⟩
  cheap := fun W' h => by
    refine (cheapest_any A c ex (by decide) 3600 20000 30000 60 W' (hR.below h)).mono ?_
    rintro e w' ⟨he, hb⟩
    rw [show cheapB ex 3600 20000 30000 60 = true by decide] at he
    obtain ⟨t, h1, rfl⟩ := he
    obtain ⟨rfl, h3⟩ := ex_first h1
    exact ⟨by rw [h3], hb⟩
  valid := fun W' h => by
    have := valid_any A c ex (by decide) W' (hR.below h)
    rw [ex_ok] at this
    exact this
  bad := fun W' => valid_any none 0 ⟨[], -1⟩ (by decide) W' (.inl rfl)
end Go.Proofs.YtbenflnpnohcjaaGreatDoor

namespace Go.Proofs.YtbenflnpnohcjaaGreatDoor
open Go.RowKit Go.Shelf

def saneT : List Int := [0, 25199, 25200, 428399, 428400]
def saneP : List Int := [120, 120, 600, 600, 60]
theorem sane_price (k : Nat) (hk : k < 5) : ∃ t p, saneT[k]? = some t ∧ saneP[k]? = some p ∧ 0 ≤ t ∧ t ≤ 10000000 ∧ Tf.price ex 3600 t = p := by
  obtain ⟨h0, h1, h2, h3, h4⟩ := ex_prices
  have : k = 0 ∨ k = 1 ∨ k = 2 ∨ k = 3 ∨ k = 4 := by omega
  rcases this with rfl | rfl | rfl | rfl | rfl
  · exact ⟨_, _, rfl, rfl, by decide, by decide, h0⟩
  · exact ⟨_, _, rfl, rfl, by decide, by decide, h1⟩
  · exact ⟨_, _, rfl, rfl, by decide, by decide, h2⟩
  · exact ⟨_, _, rfl, rfl, by decide, by decide, h3⟩
  · exact ⟨_, _, rfl, rfl, by decide, by decide, h4⟩

theorem below_al1 (W : World) (o : Obj) : Below W.heap.size W (W.alloc o) := (Below.refl _ W).alloc (Nat.le_refl _) _
theorem new_two (W W' : World) (u v : Value) (t : TypeId) (h : Below (W.alloc (.cells #[u, v] t)).heap.size (W.alloc (.cells #[u, v] t)) W') : W'.cell? ⟨W.heap.size, 0, none⟩ = some u ∧ W'.cell? ⟨W.heap.size, 1, none⟩ = some v ∧ W.heap.size < W'.heap.size ∧ Below W.heap.size W W' := by
  have e : (W.alloc (.cells #[u, v] t)).heap[W.heap.size]? = some (.cells #[u, v] t (0, 0)) := heap_at' _ _ rfl
  have q := (h.block W.heap.size (by simp)).trans e
  exact ⟨by simp [World.cell?, q], by simp [World.cell?, q], (Array.getElem?_eq_some_iff.1 q).1, (below_al1 W _).trans (h.mono (below_al1 W _).size)⟩
def saneL : List Tf.Pc := [⟨25190, 25200, 120⟩, ⟨25200, 25210, 600⟩]
theorem sane_same (A : Option Addr) (c : Nat) (W : World) (h : PcsAt W A saneL) : Calls Tryz.prog 34 #[.slice A 2 c, .slice (some ⟨W.heap.size, 0, none⟩) 2 2] (W.alloc (.cells #[.int .i64 25190, .int .i64 25200, .int .i64 120, .int .i64 25200, .int .i64 25210, .int .i64 600] 64)) fun e w' => e = .returned (.bool true) ∧ Below W.heap.size W w' := by
  have hb := below_al1 W (.cells #[.int .i64 25190, .int .i64 25200, .int .i64 120, .int .i64 25200, .int .i64 25210, .int .i64 600] 64)
  have e : (W.alloc (.cells #[.int .i64 25190, .int .i64 25200, .int .i64 120, .int .i64 25200, .int .i64 25210, .int .i64 600] 64)).heap[W.heap.size]? = some (.cells #[.int .i64 25190, .int .i64 25200, .int .i64 120, .int .i64 25200, .int .i64 25210, .int .i64 600] 64 (0, 0)) := heap_at' _ _ rfl
  refine (same_any A (some ⟨W.heap.size, 0, none⟩) c 2 saneL saneL _ (h.below hb) (.inr ⟨_, rfl, by simp, ?_⟩) (by decide) true ⟨fun _ => rfl, fun _ => rfl⟩).mono ?_
  · intro j p hj i v hi
    simp only [World.cell?, e]
    have hj2 := (List.getElem?_eq_some_iff.1 hj).1
    have hj3 : j = 0 ∨ j = 1 := by
      have : saneL.length = 2 := rfl
      omega
    rcases hj3 with rfl | rfl
    · cases hj
      match i, hi with
      | 0, hi => cases hi; rfl
      | 1, hi => cases hi; rfl
      | 2, hi => cases hi; rfl
      | i + 3, hi => simp [cellsP] at hi
    · cases hj
      match i, hi with
      | 0, hi => cases hi; rfl
      | 1, hi => cases hi; rfl
      | 2, hi => cases hi; rfl
      | i + 3, hi => simp [cellsP] at hi
  · rintro e w' ⟨rfl, hb2⟩
    exact ⟨rfl, hb.trans (hb2.mono hb.size)⟩
theorem sane_ints (A : Option Addr) (c : Nat) (W : World) (h : SlAt W A [82800, 169200]) : Calls Tryz.prog 35 #[.slice A 2 c, .slice (some ⟨W.heap.size, 0, none⟩) 2 2] (W.alloc (.cells #[.int .i64 82800, .int .i64 169200] 3)) fun e w' => e = .returned (.bool true) ∧ Below W.heap.size W w' := by
  have hb := below_al1 W (.cells #[.int .i64 82800, .int .i64 169200] 3)
  have e : (W.alloc (.cells #[.int .i64 82800, .int .i64 169200] 3)).heap[W.heap.size]? = some (.cells (([82800, 169200] : List Int).map (Value.int .i64)).toArray 3 (0, 0)) := heap_at' _ _ rfl
  refine (ints_any A (some ⟨W.heap.size, 0, none⟩) c 2 [82800, 169200] [82800, 169200] _ (h.below hb) (.inr ⟨_, rfl, by simp, ?_⟩) (by decide) true ⟨fun _ => rfl, fun _ => rfl⟩).mono ?_
  · intro j hj
    exact (row_at _ _ _ e j _ (by rw [List.getD_eq_getElem?_getD, List.getElem?_eq_getElem hj]; rfl)).1
  · rintro e w' ⟨rfl, hb2⟩
    exact ⟨rfl, hb.trans (hb2.mono hb.size)⟩

set_option maxRecDepth 100000 in
set_option maxHeartbeats 4000000 in
theorem sane_any (w : World) (ht : Tab w) : Calls Tryz.prog 14 #[] w fun e w' => e = .returned (.bool true) ∧ Below w.heap.size w w' := by
  have HEX := Lib.hid (example_any w)
  have HT := Lib.hid (fun W A c (hR : RatesAt W A ex.rates) (h : Below w.heap.size w W) => saneC W A c hR (ht.below h))
  clear ht
  go_enter Tryz.func14, Tryz.ntmps14
  go_wp2_with (go_at_call 44; refine HEX.out.mono ?_; rintro e w1 ⟨⟨A, c, rfl, hR⟩, hb1⟩; have HR := Lib.hid (And.intro hR hb1); clear hR hb1)
  obtain ⟨W1, hW1⟩ : ∃ W1, (((w1.alloc (.cells #[.slice A 2 c, .int .i64 600] 26)).alloc (.cells #[.int .i64 0, .int .i64 25199, .int .i64 25200, .int .i64 428399, .int .i64 428400] 3)).alloc (.cells #[.int .i64 120, .int .i64 120, .int .i64 600, .int .i64 600, .int .i64 60] 3)) = W1 := ⟨_, rfl⟩
  have hs1 : W1.heap.size = w1.heap.size + 3 := by rw [← hW1]; simp
  have hb11 : Below w1.heap.size w1 W1 := by rw [← hW1]; exact (((Below.refl _ w1).alloc (Nat.le_refl _) _).alloc (by simp) _).alloc (by simp; omega) _
  have p0 : W1.heap[w1.heap.size]? = some (.cells #[.slice A 2 c, .int .i64 600] 26 (0, 0)) := by
    rw [← hW1, heap_past' _ _ (by simp; omega), heap_past' _ _ (by simp), heap_at' _ _ rfl]
  have p1 : W1.heap[w1.heap.size + 1]? = some (.cells (saneT.map (Value.int .i64)).toArray 3 (0, 0)) := by
    rw [← hW1, heap_past' _ _ (by simp), heap_at' _ _ (by simp)]
    rfl
  have p2 : W1.heap[w1.heap.size + 1 + 1]? = some (.cells (saneP.map (Value.int .i64)).toArray 3 (0, 0)) := by
    rw [← hW1, heap_at' _ _ (by simp)]
    rfl
  have HB1 := Lib.hid (show Below w.heap.size w W1 from HR.out.2.trans (hb11.mono HR.out.2.size))
  have HSC := Lib.hid (HT.out W1 A c (HR.out.1.below hb11) HB1.out)
  have HCC := Lib.hid (show ∀ W, Below W1.heap.size W1 W → W.cell? ⟨w1.heap.size, 0, none⟩ = some (.slice A 2 c) ∧ W.cell? ⟨w1.heap.size, 1, none⟩ = some (.int .i64 600) ∧ w1.heap.size < W.heap.size from fun W h => by
    have q0 := (h.block w1.heap.size (by omega)).trans p0
    exact ⟨by simp [World.cell?, q0], by simp [World.cell?, q0], by have := h.size; omega⟩)
  have HTP := Lib.hid (show ∀ W, Below W1.heap.size W1 W → ∀ k t p, saneT[k]? = some t → saneP[k]? = some p → W.cell? ⟨w1.heap.size + 1, k, none⟩ = some (.int .i64 t) ∧ W.cell? ⟨w1.heap.size + 1 + 1, k, none⟩ = some (.int .i64 p) from fun W h k t p ht hp => by
    have q1 := (h.block (w1.heap.size + 1) (by omega)).trans p1
    have q2 := (h.block (w1.heap.size + 1 + 1) (by omega)).trans p2
    exact ⟨(row_at W _ _ q1 k t ht).1, (row_at W _ _ q2 k p hp).1⟩)
  rw [hW1]
  clear hW1 hb11 p0 p1 p2 hs1
  go_loopw [4] (fun si wr => ∃ k : Nat, si = .int .i64 (k : Int) ∧ k ≤ 5 ∧ Aside (Below W1.heap.size W1 wr)) (fun si _ => 5 - (intOf si).toNat)
  case atStart => exact ⟨0, rfl, by omega, Below.refl _ _⟩
  case round =>
    obtain ⟨k, rfl, hk, BW⟩ := hrel
    obtain ⟨c0, c1, n0⟩ := HCC.out wr BW.out
    by_cases hk5 : k < 5
    · obtain ⟨t, p, ht, hp, hr1, hr2, hpr⟩ := sane_price k hk5
      obtain ⟨e1, e2⟩ := HTP.out wr BW.out k t p ht hp
      have HPR := Lib.hid (fun W' (h : Below wr.heap.size wr W') => HSC.out.price W' (BW.out.trans (h.mono BW.out.size)) t p hr1 hr2 hpr)
      have hkz : (k : Int) < 5 := by omega
      have HBW := Lib.hid BW
      clear ht hp hr1 hr2 hpr BW
      have HK := Lib.hid (show ∀ W', Below wr.heap.size wr W' → W'.cell? ⟨w1.heap.size, 0, none⟩ = some (.slice A 2 c) ∧ W'.cell? ⟨w1.heap.size, 1, none⟩ = some (.int .i64 600) ∧ W'.cell? ⟨w1.heap.size + 1, k, none⟩ = some (.int .i64 t) ∧ W'.cell? ⟨w1.heap.size + 1 + 1, k, none⟩ = some (.int .i64 p) ∧ Below wr.heap.size wr W' from fun W' h => ⟨cell_below h c0, cell_below h c1, cell_below h e1, cell_below h e2, h⟩)
      have HKD := Lib.hid (show ∀ W', Below wr.drew.heap.size wr.drew W' → Below wr.heap.size wr W' from fun W' h => (Below.refl _ wr).drew.trans h)
      go_wp2
      go_region_held3 (fun W' => W'.cell? ⟨w1.heap.size, 0, none⟩ = some (.slice A 2 c) ∧ W'.cell? ⟨w1.heap.size, 1, none⟩ = some (.int .i64 600) ∧ W'.cell? ⟨w1.heap.size + 1, k, none⟩ = some (.int .i64 t) ∧ W'.cell? ⟨w1.heap.size + 1 + 1, k, none⟩ = some (.int .i64 p) ∧ Below wr.heap.size wr W')
        (with_reducible refine HK.out _ ?_; first | with_reducible exact (Below.refl _ wr).drew | (with_reducible exact HKD.out _ hb2))
        (first | (go_at_call 21; (with_reducible refine (HPR.out _ (Below.refl _ wr).drew).mono ?_); rintro e w2 ⟨rfl, hb2⟩))
      go_split_ands
      have HBE := Lib.hid (HKD.out _ hb2)
      go_wp2
      exact ⟨⟨k + 1, by go_num, by omega, HBW.out.trans (HBE.out.mono HBW.out.size)⟩, by simp [intOf] <;> omega⟩
    · obtain rfl : k = 5 := by omega
      have HBW := Lib.hid BW.out
      have HBV := Lib.hid (show Below W1.heap.size W1 (wr.alloc (.cells #[.int .i64 25190, .int .i64 25210] 28)) from HBW.out.trans ((below_al1 wr _).mono HBW.out.size))
      have HVB := Lib.hid (show ∀ W, Below (wr.alloc (.cells #[.int .i64 25190, .int .i64 25210] 28)).heap.size (wr.alloc (.cells #[.int .i64 25190, .int .i64 25210] 28)) W → Below W1.heap.size W1 W from fun W h => HBV.out.trans (h.mono HBV.out.size))
      have HVC := Lib.hid (show ∀ W, Below (wr.alloc (.cells #[.int .i64 25190, .int .i64 25210] 28)).heap.size (wr.alloc (.cells #[.int .i64 25190, .int .i64 25210] 28)) W → W.cell? ⟨wr.heap.size, 0, none⟩ = some (.int .i64 25190) ∧ W.cell? ⟨wr.heap.size, 1, none⟩ = some (.int .i64 25210) ∧ wr.heap.size < W.heap.size from fun W h => by
        obtain ⟨h1, h2, h3, _⟩ := new_two wr W _ _ _ h
        exact ⟨h1, h2, h3⟩)
      obtain ⟨s10, hs10⟩ : ∃ s, Nm.Tx 10 = s := ⟨_, rfl⟩
      obtain ⟨s1, hs1⟩ : ∃ s, Nm.Tx 1 = s := ⟨_, rfl⟩
      have HXA := Lib.hid HSC.out.exact
      have HTEN := Lib.hid HSC.out.ten
      rw [hs10, hs1] at HXA HTEN
      have heq := fun W => Tryz.eqRatio s10 s1 W
      clear hs10 hs1 BW
      go_wp2_with (first | (go_at_call 24; (with_reducible refine (HSC.out.sum _ HBV.out).mono ?_); rintro e w2 ⟨rfl, hb2⟩; have HB := Lib.hid hb2; clear hb2; obtain ⟨c0, c1, n0⟩ := HCC.out _ (HVB.out _ HB.out); obtain ⟨d0, d1, n1⟩ := HVC.out _ HB.out) | (go_at_call 26; (with_reducible refine (HSC.out.all _ (HVB.out _ HB.out)).mono ?_); rintro e w3 ⟨rfl, hb3⟩; have HB := Lib.hid (HB.out.trans (hb3.mono HB.out.size)); obtain ⟨c0, c1, n0⟩ := HCC.out _ (HVB.out _ HB.out); obtain ⟨d0, d1, n1⟩ := HVC.out _ HB.out; clear hb3) | (go_at_call 26; (with_reducible refine (HSC.out.one _ (HVB.out _ HB.out)).mono ?_); rintro e w4 ⟨rfl, hb4⟩; have HB := Lib.hid (HB.out.trans (hb4.mono HB.out.size)); obtain ⟨c0, c1, n0⟩ := HCC.out _ (HVB.out _ HB.out); obtain ⟨d0, d1, n1⟩ := HVC.out _ HB.out; clear hb4) | (go_at_call 26; (with_reducible refine (HSC.out.two _ (HVB.out _ HB.out)).mono ?_); rintro e w5 ⟨rfl, hb5⟩; have HB := Lib.hid (HB.out.trans (hb5.mono HB.out.size)); obtain ⟨c0, c1, n0⟩ := HCC.out _ (HVB.out _ HB.out); obtain ⟨d0, d1, n1⟩ := HVC.out _ HB.out; clear hb5) | (go_at_call 28; (with_reducible refine (HXA.out _ (HVB.out _ HB.out)).mono ?_); rintro e w6 ⟨rfl, hb6⟩; have HB := Lib.hid (HB.out.trans (hb6.mono HB.out.size)); obtain ⟨c0, c1, n0⟩ := HCC.out _ (HVB.out _ HB.out); obtain ⟨d0, d1, n1⟩ := HVC.out _ HB.out; clear hb6) | (go_at_call 45; (with_reducible refine (HTEN.out _).mono ?_); rintro e w7 ⟨rfl, hb7⟩; obtain ⟨x0, x1, nx, hbx⟩ := new_two _ _ _ _ _ hb7; have HB := Lib.hid (HB.out.trans (hbx.mono HB.out.size)); obtain ⟨c0, c1, n0⟩ := HCC.out _ (HVB.out _ HB.out); obtain ⟨d0, d1, n1⟩ := HVC.out _ HB.out; clear hb7 hbx) | (go_at_call 30; (with_reducible refine (HSC.out.splits _ ((HVB.out _ HB.out).trans ((below_al1 _ _).mono (HVB.out _ HB.out).size))).mono ?_); rintro e w8 ⟨⟨A8, c8, rfl, h8⟩, hb8⟩; have HP8 := Lib.hid h8; obtain ⟨y0, y1, ny, hby⟩ := new_two _ _ _ _ _ hb8; have HB := Lib.hid (HB.out.trans (hby.mono HB.out.size)); obtain ⟨c0, c1, n0⟩ := HCC.out _ (HVB.out _ HB.out); obtain ⟨d0, d1, n1⟩ := HVC.out _ HB.out; have x0 := cell_below hby x0; have x1 := cell_below hby x1; have nx := Nat.lt_of_lt_of_le nx hby.size; clear hb8 hby h8) | (go_at_call 32; (with_reducible refine (HSC.out.mids _).mono ?_); rintro e w9 ⟨⟨A9, c9, rfl, h9⟩, hb9⟩; have HP9 := Lib.hid h9; have HP8 := Lib.hid (HP8.out.below hb9); have HB := Lib.hid (HB.out.trans (hb9.mono HB.out.size)); obtain ⟨c0, c1, n0⟩ := HCC.out _ (HVB.out _ HB.out); obtain ⟨d0, d1, n1⟩ := HVC.out _ HB.out; have x0 := cell_below hb9 x0; have x1 := cell_below hb9 x1; have nx := Nat.lt_of_lt_of_le nx hb9.size; have y0 := cell_below hb9 y0; have y1 := cell_below hb9 y1; have ny := Nat.lt_of_lt_of_le ny hb9.size; clear hb9 h9) | (go_at_call 37; (with_reducible refine (HSC.out.cheap _ (HVB.out _ HB.out)).mono ?_); rintro e w10 ⟨rfl, hb10⟩; have HP9 := Lib.hid (HP9.out.below hb10); have HP8 := Lib.hid (HP8.out.below hb10); have HB := Lib.hid (HB.out.trans (hb10.mono HB.out.size)); obtain ⟨c0, c1, n0⟩ := HCC.out _ (HVB.out _ HB.out); obtain ⟨d0, d1, n1⟩ := HVC.out _ HB.out; have x0 := cell_below hb10 x0; have x1 := cell_below hb10 x1; have nx := Nat.lt_of_lt_of_le nx hb10.size; have y0 := cell_below hb10 y0; have y1 := cell_below hb10 y1; have ny := Nat.lt_of_lt_of_le ny hb10.size; clear hb10) | (go_at_call 21; (with_reducible refine (HSC.out.zone _ (HVB.out _ HB.out)).mono ?_); rintro e w11 ⟨rfl, hb11⟩; have HP9 := Lib.hid (HP9.out.below hb11); have HP8 := Lib.hid (HP8.out.below hb11); have HB := Lib.hid (HB.out.trans (hb11.mono HB.out.size)); obtain ⟨c0, c1, n0⟩ := HCC.out _ (HVB.out _ HB.out); obtain ⟨d0, d1, n1⟩ := HVC.out _ HB.out; have x0 := cell_below hb11 x0; have x1 := cell_below hb11 x1; have nx := Nat.lt_of_lt_of_le nx hb11.size; have y0 := cell_below hb11 y0; have y1 := cell_below hb11 y1; have ny := Nat.lt_of_lt_of_le ny hb11.size; clear hb11) | (go_at_call 34; (with_reducible refine (sane_same _ _ _ HP8.out).mono ?_); rintro e w12 ⟨rfl, hb12⟩; have HP9 := Lib.hid (HP9.out.below hb12); have HB := Lib.hid (HB.out.trans (hb12.mono HB.out.size)); obtain ⟨c0, c1, n0⟩ := HCC.out _ (HVB.out _ HB.out); obtain ⟨d0, d1, n1⟩ := HVC.out _ HB.out; clear hb12) | (go_at_call 35; (with_reducible refine (sane_ints _ _ _ HP9.out).mono ?_); rintro e w13 ⟨rfl, hb13⟩; have HB := Lib.hid (HB.out.trans (hb13.mono HB.out.size)); obtain ⟨c0, c1, n0⟩ := HCC.out _ (HVB.out _ HB.out); obtain ⟨d0, d1, n1⟩ := HVC.out _ HB.out; clear hb13) | (go_at_call 18; (with_reducible refine (HSC.out.valid _ (HVB.out _ HB.out)).mono ?_); rintro e w14 ⟨rfl, hb14⟩; have HB := Lib.hid (HB.out.trans (hb14.mono HB.out.size)); obtain ⟨c0, c1, n0⟩ := HCC.out _ (HVB.out _ HB.out); obtain ⟨d0, d1, n1⟩ := HVC.out _ HB.out; clear hb14) | (go_at_call 18; (with_reducible refine (HSC.out.bad _).mono ?_); rintro e w15 ⟨rfl, hb15⟩; have HB := Lib.hid (HB.out.trans (hb15.mono HB.out.size)); obtain ⟨c0, c1, n0⟩ := HCC.out _ (HVB.out _ HB.out); obtain ⟨d0, d1, n1⟩ := HVC.out _ HB.out; clear hb15))
      go_ret
      refine ⟨rfl, ?_⟩
      have := HVB.out _ HB.out
      exact HB1.out.trans (this.mono HB1.out.size)
end Go.Proofs.YtbenflnpnohcjaaGreatDoor
