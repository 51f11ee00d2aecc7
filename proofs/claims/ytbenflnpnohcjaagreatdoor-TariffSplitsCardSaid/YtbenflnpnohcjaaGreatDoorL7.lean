/- The reference's Borders. -/
import Derived.Test.YtbenflnpnohcjaaGreatDoorLCom
import Derived.Deep.RegionLawGrows
import Derived.BigRegion
namespace Go.Proofs.YtbenflnpnohcjaaGreatDoor
open Go.RowKit Go.Shelf

namespace Tf
/-- Borders: ascending, from 0 to the end of the day. -/
structure BdOk (l : List Int) : Prop where
  sorted : l.Pairwise (· < ·)
  head : l.getD 0 0 = 0
  last : 86400 ∈ l
  top : ∀ b ∈ l, 0 ≤ b ∧ b ≤ 86400
theorem getD_mem {l : List Int} {k : Nat} (h : k < l.length) : l.getD k 0 ∈ l := by
  rw [List.getD_eq_getElem?_getD, List.getElem?_eq_getElem h]; exact List.getElem_mem _
theorem bd_lt {l : List Int} (h : BdOk l) {b : Int} (hb : b ≤ 86400) {k : Nat} (hk : k ≤ l.length) (hlt : ∀ j, j < k → l.getD j 0 < b) : k < l.length := by
  refine Nat.lt_of_le_of_ne hk (fun e => ?_)
  obtain ⟨i, hi, he⟩ := List.getElem_of_mem h.last
  have := hlt i (by omega)
  rw [List.getD_eq_getElem?_getD, List.getElem?_eq_getElem hi] at this
  simp only [Option.getD_some] at this
  omega
theorem bd_ins {l : List Int} (h : BdOk l) {b : Int} (h0 : 0 ≤ b) (hb : b ≤ 86400) {k : Nat} (hk : k < l.length) (hlt : ∀ j, j < k → l.getD j 0 < b) (hge : ¬ l.getD k 0 < b) (hne : l.getD k 0 ≠ b) : BdOk (l.take k ++ (b :: l.drop k)) ∧ 1 ≤ k := by
  have hk1 : 1 ≤ k := by
    refine Nat.pos_of_ne_zero (fun e => ?_)
    subst e
    rw [h.head] at hge hne
    omega
  have hp := List.pairwise_iff_getElem.1 h.sorted
  have hg : ∀ j (hj : j < l.length), l.getD j 0 = l[j] := fun j hj => by rw [List.getD_eq_getElem?_getD, List.getElem?_eq_getElem hj]; rfl
  have hA : ∀ x ∈ l.take k, x < b := by
    intro x hx
    obtain ⟨i, hi, he⟩ := List.getElem_of_mem hx
    rw [List.length_take] at hi
    rw [List.getElem_take] at he
    have := hlt i (by omega)
    rw [hg i (by omega)] at this
    omega
  have hB : ∀ x ∈ l.drop k, b < x := by
    intro x hx
    obtain ⟨i, hi, he⟩ := List.getElem_of_mem hx
    rw [List.length_drop] at hi
    rw [List.getElem_drop] at he
    rw [hg k hk] at hge hne
    by_cases hi0 : i = 0
    · subst hi0
      simp only [Nat.add_zero] at he
      omega
    · have := hp k (k + i) hk (by omega) (by omega)
      omega
  refine ⟨⟨?_, ?_, ?_, ?_⟩, hk1⟩
  · rw [List.pairwise_append]
    refine ⟨h.sorted.sublist (List.take_sublist _ _), List.pairwise_cons.2 ⟨hB, h.sorted.sublist (List.drop_sublist _ _)⟩, ?_⟩
    intro x hx y hy
    rcases List.mem_cons.1 hy with rfl | hy
    · exact hA x hx
    · have := hA x hx; have := hB y hy; omega
  · have e : (l.take k ++ (b :: l.drop k)).getD 0 0 = l.getD 0 0 := by
      rw [List.getD_eq_getElem?_getD, List.getD_eq_getElem?_getD, List.getElem?_append_left (by rw [List.length_take]; omega), List.getElem?_take, if_pos (by omega)]
    rw [e]; exact h.head
  · rw [List.mem_append, List.mem_cons]
    have := h.last
    rw [← List.take_append_drop k l, List.mem_append] at this
    rcases this with h' | h'
    · exact .inl h'
    · exact .inr (.inr h')
  · intro x hx
    rcases List.mem_append.1 hx with hx | hx
    · exact h.top x (List.mem_of_mem_take hx)
    · rcases List.mem_cons.1 hx with rfl | hx
      · exact ⟨h0, hb⟩
      · exact h.top x (List.mem_of_mem_drop hx)
theorem mem_ins {l : List Int} {b c : Int} (k : Nat) (h : c ∈ l) : c ∈ l.take k ++ (b :: l.drop k) := by
  rw [← List.take_append_drop k l, List.mem_append] at h
  rw [List.mem_append, List.mem_cons]
  rcases h with h | h
  · exact .inl h
  · exact .inr (.inr h)
theorem self_ins (l : List Int) (b : Int) (k : Nat) : b ∈ l.take k ++ (b :: l.drop k) := by simp
theorem bd_start : BdOk [0, 86400] := ⟨by decide, rfl, by decide, by decide⟩
end Tf

theorem ownsRow_lower {w : World} {base base' e size n : Nat} {v : Value} {xs : List Value} (h : w.ownsRow base e size v n xs) (hb : base' ≤ base) : w.ownsRow base' e size v n xs := by
  refine ⟨h.1, ?_⟩
  rcases h.2 with h' | ⟨g, cap, cur, h1, h2, h3⟩
  · exact .inl h'
  · exact .inr ⟨g, cap, cur, h1, by omega, h3⟩

/-- The borders of the first i rates. -/
structure BdI (w wr : World) (x : Tf.Tariff) (A : Option Addr) (c : Nat) (v : Value) (i j : Nat) (l : List Int) : Prop where
  ok : Tf.BdOk l
  cov : ∀ r, r < i → (x.rates[r]!).frm ∈ l ∧ (x.rates[r]!).til ∈ l
  one : 1 ≤ j → (x.rates[i]!).frm ∈ l
  two : 2 ≤ j → (x.rates[i]!).til ∈ l
  len : l.length ≤ 2 + 2 * i + j
  own : wr.ownsRow (w.heap.size + 1) 3 1 v l.length (l.map (Value.int .i64))
  below : Below w.heap.size w wr
  box : wr.heap[w.heap.size]? = some (.cells #[.slice A x.rates.length c, .int .i64 x.base] 26 (0, 0))

theorem BdI.go {w wr w' : World} {x : Tf.Tariff} {A : Option Addr} {c : Nat} {v : Value} {i j : Nat} {l : List Int} (h : BdI w wr x A c v i j l) (hb : Below wr.heap.size wr w') : BdI w w' x A c v i j l :=
  ⟨h.ok, h.cov, h.one, h.two, h.len, h.own.kept (grown_of_below hb none) (by cases v.ownBlock <;> simp), h.below.trans (hb.mono h.below.size), (hb.block _ (Array.getElem?_eq_some_iff.1 h.box).1).trans h.box⟩
theorem BdI.shape {w wr : World} {x : Tf.Tariff} {A : Option Addr} {c : Nat} {v : Value} {i j : Nat} {l : List Int} (h : BdI w wr x A c v i j l) :
    ∃ g cap, v = .slice (some ⟨g, 0, none⟩) l.length cap ∧ g < wr.heap.size ∧ l.length ≤ cap ∧ cap ≤ 9223372036854775807 ∧ ∀ k, k < l.length → wr.cell? ⟨g, k, none⟩ = some (.int .i64 (l.getD k 0)) := by
  have hown := h.own
  rcases hown.2 with ⟨-, h2⟩ | ⟨g, cap, cur, rfl, h2, h3, h4, h5, _⟩
  · have := h.ok.last
    rw [List.eq_nil_of_length_eq_zero h2] at this
    simp at this
  · refine ⟨g, cap, rfl, (Array.getElem?_eq_some_iff.1 h3).1, h4, by unfold maxLen at h5; omega, fun k hk => ?_⟩
    rw [hown.cellAt k (by simpa using hk), List.getElem?_map, List.getElem?_eq_getElem hk, List.getD_eq_getElem?_getD, List.getElem?_eq_getElem hk]
    rfl

theorem ownsRow_pos {w : World} {base e size n : Nat} {v : Value} {xs : List Value} (h : w.ownsRow base e size v n xs) (hn : 0 < n) : ∃ g cap, v = .slice (some ⟨g, 0, none⟩) n cap := by
  rcases h.2 with ⟨-, h2⟩ | ⟨g, cap, cur, rfl, _⟩
  · omega
  · exact ⟨g, cap, rfl⟩
theorem drop_cells {W : World} {g : Nat} {l : List Int} (h : ∀ k, k < l.length → W.cell? ⟨g, k, none⟩ = some (.int .i64 (l.getD k 0))) (k : Nat) : ∀ j u, ((l.drop k).map (Value.int .i64))[j]? = some u → W.cell? ((⟨g, k, none⟩ : Addr).add j) = some u := by
  intro j u hu
  rw [addr_plain]
  rw [List.getElem?_map, List.getElem?_drop] at hu
  obtain ⟨x, hx, rfl⟩ := Option.map_eq_some_iff.1 hu
  have hj := (List.getElem?_eq_some_iff.1 hx).1
  rw [h (k + j) hj, List.getD_eq_getElem?_getD, hx]
  rfl
theorem take_cells {W : World} {g : Nat} {l : List Int} (h : ∀ k, k < l.length → W.cell? ⟨g, k, none⟩ = some (.int .i64 (l.getD k 0))) (k : Nat) : ∀ j u, ((l.take k).map (Value.int .i64))[j]? = some u → W.cell? ((⟨g, 0, none⟩ : Addr).add j) = some u := by
  intro j u hu
  rw [addr_plain, Nat.zero_add]
  rw [List.getElem?_map, List.getElem?_take] at hu
  obtain ⟨x, hx, rfl⟩ := Option.map_eq_some_iff.1 hu
  split at hx
  · have hj := (List.getElem?_eq_some_iff.1 hx).1
    rw [h j hj, List.getD_eq_getElem?_getD, hx]
    rfl
  · cases hx
theorem one_cells (l : List Int) : ∀ u ∈ l.map (Value.int .i64), u.oneCell' = true := by
  intro u hu
  obtain ⟨x, -, rfl⟩ := List.mem_map.1 hu
  rfl
theorem below_grown_none {B : Nat} {w w' : World} (h : w.grownBy w' none) (hB : B ≤ w.heap.size) : Below B w w' := ⟨h.os, h.tape, h.output, h.size, fun k hk => h.block k (by omega) (by simp)⟩
theorem one_more (b : Int) (l : List Int) : ∀ u ∈ [Value.int .i64 b] ++ l.map (Value.int .i64), u.oneCell' = true := by
  intro u hu
  rcases List.mem_append.1 hu with h | h
  · rw [List.mem_singleton.1 h]; rfl
  · exact one_cells _ u h
theorem bd_step {w wr w' : World} {x : Tf.Tariff} {A : Option Addr} {c i j : Nat} {v v' : Value} {l l' : List Int} {d f t p b : Int} (h : BdI w wr x A c v i j l) (_hi : i < x.rates.length) (hr : x.rates[i]! = ⟨d, f, t, p⟩) (hj : j < 2) (hb : b = if j = 0 then f else t)
    (hsub : ∀ c ∈ l, c ∈ l') (hin : b ∈ l') (hok : Tf.BdOk l') (hlen : l'.length ≤ l.length + 1) (hown : w'.ownsRow (w.heap.size + 1) 3 1 v' l'.length (l'.map (Value.int .i64))) (hbel : Below w.heap.size w w') (hbox : w'.heap[w.heap.size]? = some (.cells #[.slice A x.rates.length c, .int .i64 x.base] 26 (0, 0))) :
    BdI w w' x A c v' i (j + 1) l' := by
  refine ⟨hok, fun r hr' => ⟨hsub _ (h.cov r hr').1, hsub _ (h.cov r hr').2⟩, fun _ => ?_, fun h2 => ?_, by have := h.len; omega, hown, hbel, hbox⟩
  · by_cases e : j = 0
    · rw [if_pos e] at hb
      rw [hr]; show f ∈ l'; rw [← hb]; exact hin
    · exact hsub _ (h.one (by omega))
  · rw [if_neg (by omega)] at hb
    rw [hr]; show t ∈ l'; rw [← hb]; exact hin

/-- What Borders leaves. -/
def BordR (w : World) (x : Tf.Tariff) (e : Ending) (w' : World) : Prop :=
  (∃ l A' c', e = .returned (.slice A' l.length c') ∧ SlAt w' A' l ∧ Tf.BdOk l ∧ (∀ r ∈ x.rates, r.frm ∈ l ∧ r.til ∈ l) ∧ l.length ≤ 2 + 2 * x.rates.length) ∧ Below w.heap.size w w'

set_option maxRecDepth 100000 in
set_option maxHeartbeats 4000000 in
theorem borders_any (A : Option Addr) (c : Nat) (x : Tf.Tariff) (hx : Tf.okT x = true) (w : World) (hR : RatesAt w A x.rates) :
    Calls Tryz.prog 39 #[.agg #[.slice A x.rates.length c, .int .i64 x.base]] w fun e w' => BordR w x e w' := by
  have HX := Lib.hid hx
  have HRA := Lib.hid hR
  have hlen : x.rates.length ≤ 10 := ((Tf.okT_iff x).1 hx).2.1
  clear hx hR
  go_enter Tryz.func39, Tryz.ntmps39
  go_wp2
  have hI0 : BdI w ((w.alloc (.cells #[.slice A x.rates.length c, .int .i64 x.base] 26)).alloc (.cells #[.int .i64 0, .int .i64 86400] 3)) x A c (.slice (some ⟨w.heap.size + 1, 0, none⟩) 2 2) 0 0 [0, 86400] := by
    refine ⟨Tf.bd_start, fun r hr => by omega, fun h => by omega, fun h => by omega, by decide, ⟨rfl, .inr ⟨w.heap.size + 1, 2, _, rfl, Nat.le_refl _, heap_at' _ _ (by simp), by decide, by unfold maxLen; decide, rfl, rfl⟩⟩, below_al2 _ _ _, (heap_past' _ _ (by simp)).trans (heap_at' _ _ rfl)⟩
  have HI0 := Lib.hid hI0
  clear hI0
  go_loopg [3, 4] (x.rates.length + 1) (fun gk v3 v4 wr => ∃ (i : Nat) (l : List Int), v4 = .int .i64 (i : Int) ∧ i ≤ x.rates.length ∧ x.rates.length - i ≤ gk ∧ Aside (BdI w wr x A c v3 i 0 l))
  case atStart => exact ⟨0, _, rfl, Nat.zero_le _, by omega, HI0.out⟩
  case round =>
    obtain ⟨i, l, rfl, hi, hgk, I⟩ := hrel
    have c0 : wr.cell? ⟨w.heap.size, 0, none⟩ = some (.slice A x.rates.length c) := by simp [World.cell?, I.out.box]
    by_cases hil : i < x.rates.length
    · obtain ⟨bR, off, rfl, hbR, hcR⟩ : ∃ b off, A = some ⟨b, off, none⟩ ∧ b < w.heap.size ∧ ∀ j, j < x.rates.length → ∀ i v, (encR x.rates[j]!)[i]? = some v → w.cell? ⟨b, off + j * 4 + i, none⟩ = some v := by
        rcases HRA.out with h | h
        · rw [h] at hil; simp at hil
        · exact h
      have hmem : x.rates[i]! ∈ x.rates := by rw [getElem!_pos x.rates i hil]; exact List.getElem_mem _
      have hok := (Tf.okRate_iff _).1 (((Tf.okT_iff x).1 HX.out).2.2 _ hmem)
      obtain ⟨rk, hrk⟩ : ∃ r, x.rates[i]! = r := ⟨_, rfl⟩
      have hci := hcR i hil
      rw [hrk] at hci hok
      obtain ⟨d, f, t, p⟩ := rk
      simp only at hok
      have e1 : wr.cell? ⟨bR, off + i * 4 + 1, none⟩ = some (.int .i64 f) := cell_below I.out.below (hci 1 _ rfl)
      have e2 : wr.cell? ⟨bR, off + i * 4 + 2, none⟩ = some (.int .i64 t) := cell_below I.out.below (hci 2 _ rfl)
      have hf : 0 ≤ f ∧ f ≤ 86400 := by omega
      have ht : 0 ≤ t ∧ t ≤ 86400 := by omega
      have hilz : (i : Int) < (x.rates.length : Int) := by omega
      have HRK := Lib.hid hrk
      clear hmem hok hrk hci hcR
      go_wp2
      go_region
      go_wp2
      obtain ⟨W1, hW1⟩ : ∃ W1, (wr.alloc (.cells #[.int .i64 f, .int .i64 t] 3)).drew = W1 := ⟨_, rfl⟩
      have hb1 : Below wr.heap.size wr W1 := by rw [← hW1]; exact (below_al1 wr _).drew
      have hq1 : W1.heap[wr.heap.size]? = some (.cells #[.int .i64 f, .int .i64 t] 3 (0, 0)) := by rw [← hW1]; exact heap_at' wr _ rfl
      rw [hW1]
      have HJ0 := Lib.hid (And.intro (I.out.go hb1) hq1)
      clear hW1 hq1 hb1 c0 e1 e2
      obtain ⟨Q, hQ⟩ : ∃ Q, wr.heap.size = Q := ⟨_, rfl⟩
      rw [hQ] at HJ0 ⊢
      clear hQ
      go_loopg [3, 30] 3 (fun g2 v3 v30 wq => ∃ (j : Nat) (l : List Int), v30 = .int .i64 (j : Int) ∧ j ≤ 2 ∧ 3 - j ≤ g2 ∧ Aside (BdI w wq x (some ⟨bR, off, none⟩) c v3 i j l ∧ wq.heap[Q]? = some (.cells #[.int .i64 f, .int .i64 t] 3 (0, 0))))
      case atStart => exact ⟨0, l, rfl, by omega, by omega, HJ0.out⟩
      case round =>
        obtain ⟨j, l2, rfl, hj, hg2, J⟩ := hrel
        by_cases hj2 : j < 2
        · obtain ⟨b, hb⟩ : ∃ b, b = if j = 0 then f else t := ⟨_, rfl⟩
          have hb0 : 0 ≤ b ∧ b ≤ 86400 := by rw [hb]; split <;> omega
          have eb : wr.cell? ⟨Q, j, none⟩ = some (.int .i64 b) := by
            have hq := J.out.2
            rcases (show j = 0 ∨ j = 1 from by omega) with rfl | rfl
            · rw [if_pos rfl] at hb; subst hb; simp [World.cell?, hq]
            · rw [if_neg (by decide)] at hb; subst hb; simp [World.cell?, hq]
          obtain ⟨g, cap, rfl, hg, hlc, hcap, hcell⟩ := J.out.1.shape
          have HB := Lib.hid hb
          have HC := Lib.hid hcell
          have hj2z : (j : Int) < 2 := by omega
          clear hb hcell
          go_wp2
          go_loop [7] (fun v7 => ∃ k : Nat, v7 = .int .i64 (k : Int) ∧ k ≤ l2.length ∧ Aside (∀ j', j' < k → l2.getD j' 0 < b)) (fun v7 => l2.length - (intOf v7).toNat)
          case atStart => exact ⟨0, rfl, Nat.zero_le _, fun j' h' => by omega⟩
          case round =>
            obtain ⟨k, rfl, hk, hkl⟩ := hrel
            have hklt := Tf.bd_lt J.out.1.ok hb0.2 hk hkl.out
            have ek := HC.out k hklt
            obtain ⟨yk, hyk⟩ : ∃ v, l2.getD k 0 = v := ⟨_, rfl⟩
            rw [hyk] at ek
            have HYK := Lib.hid hyk
            have hkz : (k : Int) < (l2.length : Int) := by omega
            clear hyk
            by_cases hlt : yk < b
            · go_wp2
              go_round
              case rel => exact ⟨k + 1, by go_num, by omega, fun j' hj' => by
                by_cases e : j' = k
                · subst e; rw [HYK.out]; exact hlt
                · exact hkl.out j' (by omega)⟩
              case measure => simp [intOf] <;> omega
            · by_cases hne : yk = b
              · have hneb : (yk != b) = false := by simp [hne]
                have HNE := Lib.hid hne
                clear hne
                go_wp2
                go_roundg (2 - j)
                case measure => omega
                case rel =>
                  refine ⟨j + 1, l2, by go_num, by omega, by omega, ?_⟩
                  have hin : b ∈ l2 := by
                    have := Tf.getD_mem hklt
                    rw [HYK.out, HNE.out] at this
                    exact this
                  exact ⟨bd_step J.out.1 hil HRK.out hj2 HB.out (fun c h => h) hin J.out.1.ok (by omega) J.out.1.own J.out.1.below J.out.1.box, J.out.2⟩
              · have hneb : (yk != b) = true := by simp [hne]
                have HNE := Lib.hid hne
                clear hne
                have hkc : (k : Int) ≤ (cap : Int) := by omega
                have hkc2 : (k : Int) < (cap : Int) := by omega
                obtain ⟨i3, hi3, hy0, hy1, hy2⟩ := info_parts Tryz.info3
                have hkc3 : ¬ cap = k := by omega
                have hcD := Lib.hid (show ∀ W', Below wr.heap.size wr W' → ∀ k, k < l2.length → W'.cell? ⟨g, k, none⟩ = some (.int .i64 (l2.getD k 0)) from fun W' h k hk => cell_below h (HC.out k hk))
                have hbA : Below wr.heap.size wr (wr.alloc (.cells #[.int .i64 b] 3)).drew := (below_al1 wr _).drew
                have HBA := Lib.hid hbA
                have hll : l2.length ≤ 24 := by have := J.out.1.len; omega
                have hnews : ((l2.drop k).map (Value.int .i64)).length = (l2.length - k) * 1 := by simp
                have holds : ((l2.take k).map (Value.int .i64)).length = k * 1 := by simp; omega
                have HNW := Lib.hid (And.intro hnews holds)
                clear hbA hnews holds
                go_wp2
                go_region_law (first
                  | (refine step_append_grows rfl (.tmp 53) (.tmp 56) 36 rfl 3 i3 (.int .i64 0) 1 8 Tryz.underlying36 hi3 hy0 hy1 hy2 rfl (by decide) (some ⟨wr.heap.size, 0, none⟩) 1 1 [.int .i64 b] rfl (fun h => by cases h) rfl (fun b' hb' => by cases hb'; exact cell_one_new wr (.int .i64 b) 3) ⟨g, k, none⟩ (l2.length - k) (cap - k) ((l2.drop k).map (Value.int .i64)) rfl HNW.out.1 (drop_cells (hcD.out _ HBA.out) k) (one_cells _) (by omega) (by unfold maxLen; omega) (by omega) ?_; intro v1 w1 hown1 hgrow1; obtain ⟨g2, cap2, rfl⟩ := ownsRow_pos hown1 (by omega); have HG1 := Lib.hid (And.intro hown1 hgrow1); clear hown1 hgrow1)
                  | (refine step_append_grows rfl (.tmp 51) (.tmp 57) 36 rfl 3 i3 (.int .i64 0) 1 8 Tryz.underlying36 hi3 hy0 hy1 hy2 rfl (by decide) (some ⟨g, 0, none⟩) k k ((l2.take k).map (Value.int .i64)) rfl (fun h => by cases h) HNW.out.2 (fun b' hb' => by cases hb'; exact take_cells (hcD.out _ (HBA.out.trans (below_grown_none HG1.out.2 HBA.out.size))) k) ⟨g2, 0, none⟩ (1 + (l2.length - k)) cap2 ([.int .i64 b] ++ (l2.drop k).map (Value.int .i64)) rfl HG1.out.1.1 (HG1.out.1.cells rfl) (one_more b _) (by omega) (by unfold maxLen; omega) (by omega) ?_; intro v2 w2 hown2 hgrow2; obtain ⟨g3, cap3, rfl⟩ := ownsRow_pos hown2 (by omega); have HG2 := Lib.hid (And.intro hown2 hgrow2); clear hown2 hgrow2))
                go_wp2
                have hbd := HBA.out.trans (below_grown_none HG1.out.2 HBA.out.size)
                have hbd2 : Below wr.heap.size wr w2 := hbd.trans (below_grown_none HG2.out.2 hbd.size)
                have hJ := J.out.1.go hbd2
                have hq2 := (hbd2.block _ (Array.getElem?_eq_some_iff.1 J.out.2).1).trans J.out.2
                have hneq : l2.getD k 0 ≠ b := by rw [HYK.out]; exact HNE.out
                have hltk : ¬ l2.getD k 0 < b := by rw [HYK.out]; omega
                obtain ⟨i1, i2⟩ := Tf.bd_ins J.out.1.ok hb0.1 hb0.2 hklt hkl.out hltk hneq
                have hL : (l2.take k ++ (b :: l2.drop k)).length = k + (1 + (l2.length - k)) := by simp; omega
                have hM : (l2.take k ++ (b :: l2.drop k)).map (Value.int .i64) = (l2.take k).map (Value.int .i64) ++ ([.int .i64 b] ++ (l2.drop k).map (Value.int .i64)) := by simp
                have hown3 := ownsRow_lower HG2.out.1 (base' := w.heap.size + 1) (by have := HG1.out.2.size; have := HBA.out.size; have h1 := J.out.1.below.size; have h2 := (Array.getElem?_eq_some_iff.1 J.out.1.box).1; omega)
                rw [← hL, ← hM] at hown3
                rw [← hL]
                go_roundg (2 - j)
                case measure => omega
                case rel =>
                  refine ⟨j + 1, l2.take k ++ (b :: l2.drop k), by go_num, by omega, by omega, ?_⟩
                  exact ⟨bd_step J.out.1 hil HRK.out hj2 HB.out (fun c h => Tf.mem_ins k h) (Tf.self_ins _ _ _) i1 (by rw [hL]; omega) hown3 hJ.below hJ.box, hq2⟩
        · obtain rfl : j = 2 := by omega
          go_wp2
          go_roundg (x.rates.length - (i + 1))
          case measure => omega
          case rel =>
            refine ⟨i + 1, l2, by go_num, by omega, by omega, ?_⟩
            have hJ := J.out.1
            refine ⟨hJ.ok, fun r hr => ?_, fun h => by omega, fun h => by omega, by have := hJ.len; omega, hJ.own, hJ.below, hJ.box⟩
            by_cases e : r = i
            · subst e; exact ⟨hJ.one (by omega), hJ.two (by omega)⟩
            · exact hJ.cov r (by omega)
    · obtain rfl : i = x.rates.length := by omega
      obtain ⟨g, cap, rfl, hg, hlc, hcap, hcell⟩ := I.out.shape
      have HC := Lib.hid hcell
      have hiz : ¬ (x.rates.length : Int) < (x.rates.length : Int) := by omega
      clear hcell
      go_wp2
      go_ret
      refine ⟨⟨l, _, _, rfl, .inr ⟨g, rfl, hg, fun k hk => HC.out k hk⟩, I.out.ok, fun r hr => ?_, by have := I.out.len; omega⟩, I.out.below⟩
      obtain ⟨k, hk, rfl⟩ := List.getElem_of_mem hr
      have := I.out.cov k hk
      rw [getElem!_pos x.rates k hk] at this
      exact this
end Go.Proofs.YtbenflnpnohcjaaGreatDoor
