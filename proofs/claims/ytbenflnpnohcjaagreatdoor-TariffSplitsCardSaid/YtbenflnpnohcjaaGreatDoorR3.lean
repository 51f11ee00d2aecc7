/- The reference's subtraction of digits. The reference's division of digits. -/
import Derived.Test.YtbenflnpnohcjaaGreatDoorR1
import Derived.OwnWalk
import Derived.Deep.LoopGhost
namespace Go.Proofs.YtbenflnpnohcjaaGreatDoor
open Go.RowKit Go.Shelf

/-- append(v, z), of an integer, to a row of our own. -/
theorem app_int {ops : Array Oper} {rest : List Oper} {o : Oper} {a : Act} {Q : Exit → Act → World → Prop} (t : TypeId) (ht : Tryz.prog.underlying t = some (.slice 3)) (hgd : o.guard = none) (s x : Operand)
    (ho : o.op = .call { callee := .builtin .append, args := #[s, x], argTypes := #[t, t] }) (base : Nat) (w : World) (v : Value) (k : Nat) (xs : List Int) (z : Int) (hs : a.eval s = v) (hown : w.ownsRow base 3 1 v k (xs.map (Value.int .i64)))
    (hx : a.eval x = .slice (some ⟨w.heap.size, 0, none⟩) 1 1) (hk : k ≤ 1000000) (hbase : base ≤ w.heap.size)
    (h : ∀ ao n' cp w', w'.ownsRow base 3 1 (.slice ao n' cp) (k + 1) ((xs ++ [z]).map (Value.int .i64)) → Below base w w' → wpList Tryz.prog ops Q rest (a.put o.dst (.slice ao n' cp)) w') :
    wpList Tryz.prog ops Q (o :: rest) a (w.alloc (.cells #[.int .i64 z] 3)) := by
  obtain ⟨i0, hi0, hz0, hz1, hz2⟩ := info_parts Tryz.info3
  refine wpList_append_own _ hgd s x t ho base 3 i0 (.int .i64 0) 1 8 ht hi0 hz0 hz1 hz2 rfl (by decide) v k _ hs (hown.alloc _) ⟨w.heap.size, 0, none⟩ 1 1 [.int .i64 z] hx rfl (cell_one_new _ _ _) ?_ ?_ ?_ ?_ ?_
  · intro u hu; simp at hu; subst hu; rfl
  · unfold maxLen; omega
  · omega
  · simp; omega
  · intro v' w' hown' hgrow _
    have hb : Below base w w' := ((Below.refl _ w).alloc hbase _).grown hgrow (by simp; omega) (fun k hk => (hown.lt k hk).1)
    obtain ⟨ao, n', cp, rfl⟩ : ∃ ao n' cp, v' = .slice ao n' cp := by
      rcases hown'.2 with ⟨h1, _⟩ | ⟨g, cap, cur, h1, _⟩
      · exact ⟨_, _, _, h1⟩
      · exact ⟨_, _, _, h1⟩
    exact h ao n' cp w' (by simpa using hown') hb

theorem mi_len {xs : List Int} {M N k : Nat} {c : Int} (h : Nm.MiOk M N k xs c) : xs.length = k := h.len

set_option maxRecDepth 100000 in
set_option maxHeartbeats 1000000 in
theorem minusD_any (M N : Nat) (hMN : N ≤ M) (v u : Value) (w : World) (hv : NumD w v M) (hu : NumD w u N) (lM : (Nm.grp 10 M).length ≤ 10000) :
    Calls Tryz.prog 137 #[v, u] w fun e w' => (∃ r, e = .returned r ∧ NumD w' r (M - N) ∧ ∀ b, r.ownBlock = some b → w.heap.size ≤ b) ∧ Below w.heap.size w w' := by
  obtain ⟨i0, hi0, hz0, hz1, hz2⟩ := info_parts Tryz.info3
  have hu36 : Tryz.prog.underlying 36 = some (.slice 3) := by kernel_rfl
  obtain ⟨A, c, rfl, h1, h2, h3, _⟩ := hv
  obtain ⟨A', c', rfl, k1, k2, k3, _⟩ := hu
  have lN : (Nm.grp 10 N).length ≤ 10000 := by
    by_cases hc : (Nm.grp 10 M).length < (Nm.grp 10 N).length
    · have := (Nm.grp_lt_iff (b := 10) (by omega) N _).1 hc
      have h0 := Nm.grp_end (b := 10) (by omega) M
      have h4 : N / 10 ^ (Nm.grp 10 M).length ≤ M / 10 ^ (Nm.grp 10 M).length := Nat.div_le_div_right hMN
      exact absurd (Nat.eq_zero_of_le_zero (Nat.le_trans h4 (Nat.le_of_eq h0))) this
    · omega
  have hat : ∀ k, (Nm.grp 10 M).getD k 0 = ((M / 10 ^ k % 10 : Nat) : Int) := fun k => Nm.grp_at (by omega) k M
  have hat2 : ∀ k, (Nm.grp 10 N).getD k 0 = ((N / 10 ^ k % 10 : Nat) : Int) := fun k => Nm.grp_at (by omega) k N
  have hend2 : ∀ k, ¬ k < (Nm.grp 10 N).length → N / 10 ^ k % 10 = 0 := fun k hk => by
    have : N / 10 ^ k = 0 := by
      by_cases h : N / 10 ^ k = 0
      · exact h
      · exact absurd ((Nm.grp_lt_iff (b := 10) (by omega) N k).2 h) hk
    rw [this]
  have hdone : ∀ xs c, Nm.MiOk M N (Nm.grp 10 M).length xs c → Nm.trim xs = Nm.grp 10 (M - N) := fun xs c h => h.done hMN
  have HALL := Lib.hid (And.intro hat (And.intro hat2 (And.intro hend2 hdone)))
  have H1 := Lib.hid h1
  have H2 := Lib.hid k1
  clear hat hat2 hend2 hdone h1 k1
  generalize Nm.grp 10 M = l at *
  generalize Nm.grp 10 N = m at *
  go_enter Tryz.func137, Tryz.ntmps137
  go_wp2
  go_loopw [5, 6, 7] (fun out sb si wr => ∃ (k : Nat) (β : Int) (xs : List Int), sb = .int .i64 β ∧ si = .int .i64 k ∧ k ≤ l.length ∧ Aside (Nm.MiOk M N k xs β) ∧ wr.ownsRow w.heap.size 3 1 out k (xs.map (Value.int .i64)) ∧ Aside (Below w.heap.size w wr)) (fun _ _ si _ => l.length - (intOf si).toNat)
  case atStart => exact ⟨0, 0, [], rfl, rfl, Nat.zero_le _, Nm.MiOk.zero M N, by simp [World.ownsRow], Below.refl _ _⟩
  case round =>
    obtain ⟨k, β, xs, rfl, rfl, hk, hmi, hown, BW⟩ := hrel
    by_cases hkl : k < l.length
    · obtain ⟨b, rfl, hb⟩ : ∃ b, A = some ⟨b, 0, none⟩ ∧ IntsAt w b l := by
        rcases H1.out with h' | h'
        · rw [h'] at hkl; simp at hkl
        · exact h'
      have e1 := cell_below BW.out (hb.2 k hkl)
      rw [HALL.out.1 k] at e1
      have hx : M / 10 ^ k % 10 < 10 := Nat.mod_lt _ (by omega)
      have hy : N / 10 ^ k % 10 < 10 := Nat.mod_lt _ (by omega)
      have hcr := hmi.out.cr
      have hbr : 0 ≤ β ∧ β ≤ 1 := by omega
      have hkz : (k : Int) < (l.length : Int) := by omega
      have hst := fun n c' => hmi.out.step (n := n) (c' := c')
      have HST := Lib.hid hst
      have HE0 := Lib.hid (HALL.out.2.2.1 k)
      have HB2 := Lib.hid (show k < m.length → ∃ b, A' = some ⟨b, 0, none⟩ ∧ wr.cell? ⟨b, k, none⟩ = some (.int .i64 ((N / 10 ^ k % 10 : Nat) : Int)) from fun hkm => by
        obtain ⟨b, hA, hb⟩ : ∃ b, A' = some ⟨b, 0, none⟩ ∧ IntsAt w b m := by
          rcases H2.out with h' | h'
          · rw [h'] at hkm; simp at hkm
          · exact h'
        have e := cell_below BW.out (hb.2 k hkm)
        rw [HALL.out.2.1 k] at e
        exact ⟨b, hA, e⟩)
      generalize M / 10 ^ k % 10 = x at *
      generalize N / 10 ^ k % 10 = y at *
      clear hst hcr hb
      by_cases hkm : k < m.length
      · have hkmz : (k : Int) < (m.length : Int) := by omega
        obtain ⟨b', rfl, e2⟩ := HB2.out hkm
        obtain ⟨n1, hn1⟩ : ∃ n1, (x : Int) - β = n1 := ⟨_, rfl⟩
        obtain ⟨n2, hn2⟩ : ∃ n2, n1 - (y : Int) = n2 := ⟨_, rfl⟩
        have hr1 : -1 ≤ n1 ∧ n1 ≤ 9 := by omega
        have hr2 : -10 ≤ n2 ∧ n2 ≤ 9 := by omega
        have HR := Lib.hid (And.intro hx (And.intro hy hbr))
        clear hx hy hbr
        by_cases hneg : n2 < 0
        · have hsp := HST.out (n2 + 10) 1 (by omega) (by omega) (.inr rfl)
          have HSP := Lib.hid hsp
          clear hsp
          go_wp2_with (at_builtin; refine app_int 36 hu36 rfl (.tmp 35) (.tmp 37) rfl w.heap.size wr _ k xs (n2 + 10) rfl hown rfl (by omega) BW.out.size ?_; intro ao n' cp w2 hown' hb2; have HOW := Lib.hid hown'; clear hown')
          refine ⟨⟨k + 1, 1, xs ++ [n2 + 10], rfl, by go_num, by omega, HSP.out, HOW.out, BW.out.trans hb2⟩, by simp [intOf]; omega⟩
        · have hsp := HST.out n2 0 (by omega) (by omega) (.inl rfl)
          have HSP := Lib.hid hsp
          clear hsp
          go_wp2_with (at_builtin; refine app_int 36 hu36 rfl (.tmp 35) (.tmp 37) rfl w.heap.size wr _ k xs (n2) rfl hown rfl (by omega) BW.out.size ?_; intro ao n' cp w2 hown' hb2; have HOW := Lib.hid hown'; clear hown')
          refine ⟨⟨k + 1, 0, xs ++ [n2], rfl, by go_num, by omega, HSP.out, HOW.out, BW.out.trans hb2⟩, by simp [intOf]; omega⟩
      · have hkmz : decide (k < m.length) = false := decide_eq_false hkm
        have hkmi : decide ((k : Int) < (m.length : Int)) = false := decide_eq_false (by omega)
        have hy0 : y = 0 := HE0.out hkm
        clear hkm
        obtain ⟨n1, hn1⟩ : ∃ n1, (x : Int) - β = n1 := ⟨_, rfl⟩
        have hr1 : -1 ≤ n1 ∧ n1 ≤ 9 := by omega
        have HR := Lib.hid (And.intro hx (And.intro hy hbr))
        clear hx hy hbr
        by_cases hneg : n1 < 0
        · have hsp := HST.out (n1 + 10) 1 (by omega) (by omega) (.inr rfl)
          have HSP := Lib.hid hsp
          clear hsp hy0
          go_wp2_with (at_builtin; refine app_int 36 hu36 rfl (.tmp 35) (.tmp 37) rfl w.heap.size wr _ k xs (n1 + 10) rfl hown rfl (by omega) BW.out.size ?_; intro ao n' cp w2 hown' hb2; have HOW := Lib.hid hown'; clear hown')
          refine ⟨⟨k + 1, 1, xs ++ [n1 + 10], rfl, by go_num, by omega, HSP.out, HOW.out, BW.out.trans hb2⟩, by simp [intOf]; omega⟩
        · have hsp := HST.out n1 0 (by omega) (by omega) (.inl rfl)
          have HSP := Lib.hid hsp
          clear hsp hy0
          go_wp2_with (at_builtin; refine app_int 36 hu36 rfl (.tmp 35) (.tmp 37) rfl w.heap.size wr _ k xs (n1) rfl hown rfl (by omega) BW.out.size ?_; intro ao n' cp w2 hown' hb2; have HOW := Lib.hid hown'; clear hown')
          refine ⟨⟨k + 1, 0, xs ++ [n1], rfl, by go_num, by omega, HSP.out, HOW.out, BW.out.trans hb2⟩, by simp [intOf]; omega⟩
    · obtain rfl : k = l.length := by omega
      have hkz : ¬ (l.length : Int) < (l.length : Int) := by omega
      have htr := HALL.out.2.2.2 xs β hmi.out
      have hxl := mi_len hmi.out
      have HT := Lib.hid (numD_trim (w := wr) (base := w.heap.size) (v := _) (l := xs) (N := M - N) (by unfold OwnsInts; rw [hxl]; exact hown) htr (by omega))
      clear htr hmi
      go_wp2_with (go_at_call 157; (with_reducible refine HT.out.mono ?_); rintro e w2 ⟨⟨v', rfl, hv', ho'⟩, rfl⟩)
      go_ret
      exact ⟨⟨_, rfl, hv', ho'⟩, BW.out⟩
end Go.Proofs.YtbenflnpnohcjaaGreatDoor

namespace Go.Proofs.YtbenflnpnohcjaaGreatDoor
open Go.RowKit Go.Shelf

/-- append of a row of integers to a row of one that is our own. -/
theorem app_row {ops : Array Oper} {rest : List Oper} {o : Oper} {a : Act} {Q : Exit → Act → World → Prop} (t : TypeId) (ht : Tryz.prog.underlying t = some (.slice 3)) (hgd : o.guard = none) (s x : Operand)
    (ho : o.op = .call { callee := .builtin .append, args := #[s, x], argTypes := #[t, t] }) (w : World) (z : Int) (A : Option Addr) (l : List Int) (c : Nat) (hs : a.eval s = .slice (some ⟨w.heap.size, 0, none⟩) 1 1)
    (hx : a.eval x = .slice A l.length c) (hA : SlAt w A l) (hc : A = none → c = 0) (hl : l.length ≤ 1000000)
    (h : ∀ ao n' cp w', OwnsInts w' w.heap.size (.slice ao n' cp) (z :: l) → Below w.heap.size w w' → wpList Tryz.prog ops Q rest (a.put o.dst (.slice ao n' cp)) w') :
    wpList Tryz.prog ops Q (o :: rest) a (w.alloc (.cells #[.int .i64 z] 3)) := by
  obtain ⟨i0, hi0, hz0, hz1, hz2⟩ := info_parts Tryz.info3
  have hown : (w.alloc (.cells #[.int .i64 z] 3)).ownsRow w.heap.size 3 1 (.slice (some ⟨w.heap.size, 0, none⟩) 1 1) 1 [.int .i64 z] := World.ownsRow_lit w #[.int .i64 z] 1 (Nat.le_refl _) (by unfold maxLen; decide) rfl
  have hb0 : Below w.heap.size w (w.alloc (.cells #[.int .i64 z] 3)) := (Below.refl _ w).alloc (Nat.le_refl _) _
  rcases A with _ | ad
  · obtain rfl := hc rfl
    have hl0 : l = [] := by
      rcases hA with h' | ⟨b, h', _⟩
      · exact h'
      · cases h'
    subst hl0
    refine wpList_plain hgd fun K hK => ?_
    have hrun := run_append_owned_none (P := Tryz.prog) (w := w.alloc (.cells #[.int .i64 z] 3)) w.heap.size t o.type 3 i0 1 ht hi0 _ 1 _ hown
    unfold Oper.wp
    simp [execOp, ho, resolve, invoke, builtin, hs, hx, hrun, Result.andThen]
    exact hK _ _ (h _ _ _ _ (by unfold OwnsInts; simpa using hown) hb0)
  · have hnews : ∀ j u, (l.map (Value.int .i64))[j]? = some u → (w.alloc (.cells #[.int .i64 z] 3)).cell? (ad.add j) = some u := by
      intro j u hj
      rcases hA with h' | ⟨b, h', h2⟩
      · rw [h'] at hj; simp at hj
      · cases h'
        have h3 := (h2.below hb0).2
        rw [List.getElem?_map] at hj
        by_cases hjl : j < l.length
        · have h4 := h3 j hjl
          rw [List.getD_eq_getElem?_getD, List.getElem?_eq_getElem hjl] at h4
          rw [List.getElem?_eq_getElem hjl] at hj
          simp only [Option.map_some, Option.some.injEq, Option.getD_some] at hj h4
          have e : (⟨b, 0, none⟩ : Addr).add j = ⟨b, j, none⟩ := by cases j <;> simp [Addr.add]
          rw [← hj, e]
          exact h4
        · rw [List.getElem?_eq_none (by omega)] at hj; simp at hj
    refine wpList_append_own _ hgd s x t ho w.heap.size 3 i0 (.int .i64 0) 1 8 ht hi0 hz0 hz1 hz2 rfl (by decide) _ 1 [.int .i64 z] hs hown ad l.length c (l.map (Value.int .i64)) hx (by simp) hnews ?_ ?_ ?_ ?_ ?_
    · intro u hu; obtain ⟨y, _, rfl⟩ := List.mem_map.1 hu; rfl
    · unfold maxLen; omega
    · omega
    · simp
    · intro v' w' hown' hgrow _
      have hb : Below w.heap.size w w' := hb0.grown hgrow (by simp) (fun k hk => (hown.lt k hk).1)
      obtain ⟨ao, n', cp, rfl⟩ : ∃ ao n' cp, v' = .slice ao n' cp := by
        rcases hown'.2 with ⟨h1, _⟩ | ⟨g, cap, cur, h1, _⟩
        · exact ⟨_, _, _, h1⟩
        · exact ⟨_, _, _, h1⟩
      exact h ao n' cp w' (by unfold OwnsInts; rw [List.length_cons, Nat.add_comm]; exact hown') hb

theorem row_at (W : World) (B : Nat) (Q : List Int) (h : W.heap[B]? = some (.cells (Q.map (Value.int .i64)).toArray 3 (0, 0))) (i : Nat) (x : Int) (hi : Q[i]? = some x) : W.cell? ⟨B, i, none⟩ = some (.int .i64 x) ∧ W.frozen? ⟨B, i, none⟩ = false := by
  simp [World.cell?, World.frozen?, h, hi]
theorem row_set (W : World) (B : Nat) (Q : List Int) (h : W.heap[B]? = some (.cells (Q.map (Value.int .i64)).toArray 3 (0, 0))) (i : Nat) (x : Int) : (W.setCell ⟨B, i, none⟩ (.int .i64 x)).heap[B]? = some (.cells ((Q.set i x).map (Value.int .i64)).toArray 3 (0, 0)) := by
  rw [sc_at W ⟨B, i, none⟩ _ rfl h]
  simp
theorem NumD.set {W : World} {v : Value} {N : Nat} (h : NumD W v N) {B : Nat} (hB : ∀ b, v.ownBlock = some b → B < b) (i : Nat) (u : Value) : NumD (W.setCell ⟨B, i, none⟩ u) v N := by
  obtain ⟨A, c, rfl, q1, q2⟩ := h
  refine ⟨A, c, rfl, ?_, q2⟩
  refine q1.kps ((KpS.refl (fun k _ => k = B) W).setCell (p := ⟨B, i, none⟩) (fun _ _ _ _ => rfl) _) ?_
  intro ad had _ t h
  have := hB ad.block (by rw [had]; rfl)
  omega
theorem numD_zero (W : World) : NumD W (.slice none 0 0) 0 := ⟨none, 0, by rw [Nm.grp_zero]; rfl, .inl (Nm.grp_zero _), by rw [Nm.grp_zero]; simp, by omega, fun _ => rfl⟩
theorem grp10_len_mono {M N : Nat} (h : M ≤ N) : (Nm.grp 10 M).length ≤ (Nm.grp 10 N).length := by
  by_cases c : (Nm.grp 10 N).length < (Nm.grp 10 M).length
  · have := Nm.grp_length_lt (b := 10) (by omega) c; omega
  · omega

set_option maxRecDepth 100000 in
set_option maxHeartbeats 400000 in
theorem dividedD_any (N M : Nat) (hM : 0 < M) (v u : Value) (w : World) (hv : NumD w v N) (hu : NumD w u M) (lN : (Nm.grp 10 N).length ≤ 1000) (lM : (Nm.grp 10 M).length ≤ 1000) :
    Calls Tryz.prog 134 #[v, u] w fun e w' => (∃ q r, e = .returned (.tuple #[q, r]) ∧ NumD w' q (N / M) ∧ NumD w' r (N % M)) ∧ Below w.heap.size w w' := by
  have hu36 : Tryz.prog.underlying 36 = some (.slice 3) := by kernel_rfl
  obtain ⟨i0, hi0, hz0, hz1, hz2⟩ := info_parts Tryz.info3
  obtain ⟨A, c, rfl, h1, h2, h3, _⟩ := hv
  have hinr := Nm.inR_grp (b := 10) (by omega) N
  have hdone : ∀ Q R, Nm.DvOk 10 M (Nm.grp 10 N) 0 Q R → Nm.trim Q = Nm.grp 10 (N / M) ∧ R = N % M := fun Q R h => h.done (by omega)
  have hzero := Nm.DvOk.zero (b := 10) (M := M) (by omega) hM (Nm.grp 10 N)
  generalize Nm.grp 10 N = l at *
  have hmk : ∀ W, (Instr.makeSlice 36 (.int .i64 (l.length : Int)) (.int .i64 (l.length : Int))).run Tryz.prog W = .ok (.slice (some ⟨W.heap.size, 0, none⟩) l.length l.length) (W.alloc (.cells ((List.replicate l.length (0 : Int)).map (Value.int .i64)).toArray 3)) := fun W => by
    have h := run_makeSlice (P := Tryz.prog) (w := W) 36 3 i0 (.int .i64 0) hu36 hi0 hz0 .i64 .i64 (l.length : Int) (l.length : Int) (by omega) (Int.le_refl _) (by rw [hz1]; simp; omega) (by rw [hz2]; omega) (by omega)
    rw [h, Int.toNat_natCast, hz1]
    congr 3
    apply Array.toList_inj.1
    rw [Nat.mul_one]
    show (madeCells #[.int .i64 0] l.length).toList = _
    rw [toList_madeCells_one]
    simp
  have hwl : IntKind.i64.wrap ((l.length : Int) - 1) = (l.length : Int) - 1 := IntWalk.i64_in _ (by omega)
  have HALL := Lib.hid (And.intro hinr (And.intro hdone hzero))
  have H1 := Lib.hid h1
  have HU := Lib.hid hu
  obtain ⟨A', c', rfl, _⟩ := hu
  clear hinr hdone hzero h1
  go_enter Tryz.func134, Tryz.ntmps134
  go_wp2
  clear hmk
  go_loopw [7, 8] (fun sr si wr => ∃ (k R : Nat) (Q : List Int), si = .int .i64 ((k : Int) - 1) ∧ k ≤ l.length ∧ NumD wr sr R ∧ wr.heap[w.heap.size]? = some (.cells (Q.map (Value.int .i64)).toArray 3 (0, 0)) ∧ Aside (Nm.DvOk 10 M l k Q R ∧ (∀ j, j < k → Q[j]? = some 0) ∧ (∀ b, sr.ownBlock = some b → w.heap.size < b) ∧ Below w.heap.size w wr)) (fun _ si _ => (intOf si + 1).toNat)
  case atStart => 
    refine ⟨l.length, 0, List.replicate l.length 0, rfl, Nat.le_refl _, numD_zero _, ?_, HALL.out.2.2, ?_, fun b h => (by cases h), (Below.refl _ w).alloc (Nat.le_refl _) _⟩
    · rw [heap_at' _ _ rfl]; simp
    · intro j hj
      rw [List.getElem?_replicate, if_pos hj]
  case round =>
    obtain ⟨k, R, Q, rfl, hk, hR, hq, has⟩ := hrel
    cases k with
    | zero =>
      obtain ⟨hdv, hz, ho, hB⟩ := has.out
      obtain ⟨hd1, rfl⟩ := HALL.out.2.1 Q R hdv
      have hQl := hdv.len
      have hsl : SlAt wr (some ⟨w.heap.size, 0, none⟩) Q := .inr ⟨_, rfl, (Array.getElem?_eq_some_iff.1 hq).1, fun j hj => (row_at wr _ Q hq j _ (by rw [List.getD_eq_getElem?_getD, List.getElem?_eq_getElem hj, Option.getD_some])).1⟩
      have ht := trimD_any (some ⟨w.heap.size, 0, none⟩) l.length Q wr hsl (by omega) (by omega) (by omega)
      obtain ⟨m, hm⟩ := trim_pre' Q
      have hsl2 : SlAt wr (some ⟨w.heap.size, 0, none⟩) (Nm.trim Q) := SlAt.pre (m := m) (by rw [← hm]; exact hsl)
      have hle : (Nm.trim Q).length ≤ l.length := by rw [← hQl]; (conv => rhs; rw [hm]); simp
      rw [hd1] at ht hsl2 hle
      rw [hQl] at ht
      have HT := Lib.hid ht
      have HR := Lib.hid (And.intro hsl2 (And.intro hle (And.intro hR hB)))
      clear ht hsl2 hle hm hd1 hsl has hdv hz ho hB hR hq hQl
      go_wp2_with (go_at_call 157; (with_reducible refine HT.out.mono ?_); rintro e w2 ⟨rfl, rfl⟩)
      go_ret2
      exact ⟨⟨_, _, rfl, ⟨_, _, rfl, HR.out.1, HR.out.2.1, by omega, fun e => by cases e⟩, HR.out.2.2.1⟩, HR.out.2.2.2⟩
    | succ k =>
      obtain ⟨hdv, hz, ho, hB⟩ := has.out
      obtain ⟨b, rfl, hb⟩ : ∃ b, A = some ⟨b, 0, none⟩ ∧ IntsAt w b l := by
        rcases H1.out with h' | h'
        · rw [h'] at hk; simp at hk
        · exact h'
      have e1 := cell_below hB (hb.2 k (by omega))
      have hxr : 0 ≤ l.getD k 0 ∧ l.getD k 0 < 10 := by
        rw [List.getD_eq_getElem?_getD, List.getElem?_eq_getElem (by omega), Option.getD_some]
        exact HALL.out.1 _ (List.getElem_mem _)
      obtain ⟨x, hx⟩ := Int.eq_ofNat_of_zero_le hxr.1
      have hlx : l[k]? = some (x : Int) := by
        have : l[k]? = some (l.getD k 0) := by rw [List.getD_eq_getElem?_getD, List.getElem?_eq_getElem (by omega), Option.getD_some]
        rw [this, hx]
      rw [hx] at e1
      have hks : (((k + 1 : Nat) : Int) - 1) = (k : Int) := by omega
      have hkz : (k : Int) < (l.length : Int) := by omega
      obtain ⟨hx10, hdd, hstep⟩ := hdv.step HALL.out.1 (show k < l.length by omega) hlx
      have hRM := hdv.rem
      have htr := Nm.trim_cons (b := 10) (by omega) (x := x) hx10 R
      have hQl := hdv.len
      have hQk : Q[k]? = some 0 := hz k (by omega)
      have lR : (Nm.grp 10 R).length ≤ 1000 := Nat.le_trans (grp10_len_mono (Nat.le_of_lt hRM)) lM
      have lR2 : (Nm.grp 10 (R * 10 + x)).length ≤ 1001 := by
        have h5 := Nm.lt_pow_length (b := 10) (by omega) M
        refine Nat.le_trans (Nm.grp_length_le (by omega) ((Nm.grp 10 M).length + 1) _ ?_) (by omega)
        rw [Nat.pow_succ]
        have h6 : (R + 1) * 10 ≤ M * 10 := Nat.mul_le_mul_right _ hRM
        have h7 := Nat.mul_lt_mul_of_pos_right h5 (show 0 < 10 by omega)
        omega
      have HS := Lib.hid (And.intro hstep (And.intro htr (And.intro hz (And.intro ho (And.intro hB (And.intro hq (And.intro hQl (And.intro hQk (And.intro lR2 hdd)))))))))
      obtain ⟨Ar, cr, rfl, r1, r2, r3, r4⟩ := hR
      have HRS := Lib.hid r1
      have hsB := hB.size
      rw [hks]
      clear hdv hz ho hb hxr hx hlx hks hstep htr hQl hQk lR2 hdd hq has hx10 r1 hB
      go_wp2_with (first | (at_builtin; refine app_row 36 hu36 rfl (.tmp 23) (.tmp 24) rfl wr x Ar (Nm.grp 10 R) cr rfl rfl HRS.out r4 (by omega) ?_; intro ao n' cp w2 hown2 hb2; have HOW := Lib.hid (And.intro hown2 hb2); clear hown2 hb2) | (go_at_call 157; (with_reducible refine (numD_trim (N := R * 10 + x) HOW.out.1 HS.out.2.1 (by rw [List.length_cons]; omega)).mono ?_); rintro e w3 ⟨⟨v', rfl, hv', ho'⟩, rfl⟩; have HV := Lib.hid (And.intro hv' ho'); clear hv' ho'))
      obtain ⟨hstep, htr, hz, ho, hB, hq, hQl, hQk, lR2, hdd⟩ := HS.out
      have hb2 := HOW.out.2
      have hs2 := hb2.size
      have hq2 := (hb2.block w.heap.size (Array.getElem?_eq_some_iff.1 hq).1).trans hq
      have hB2 := hB.trans (hb2.mono hB.size)
      generalize hR' : R * 10 + x = R' at *
      have hset0 : Q.set k 0 = Q := by
        apply List.ext_getElem?
        intro i
        rw [List.getElem?_set]
        split
        · rename_i hi; subst hi
          split
          · exact hQk.symm
          · rename_i hi2; rw [List.getElem?_eq_none (by omega)]
        · rfl
      have hown0 : ∀ b, v'.ownBlock = some b → w.heap.size < b := fun b hb => by
        have := HV.out.2 b hb
        have h9 := (Array.getElem?_eq_some_iff.1 hq).1
        omega
      have HS2 := Lib.hid (And.intro hq2 (And.intro hB2 (And.intro hset0 (And.intro HV.out.1 hown0))))
      have hqlt : w.heap.size < w2.heap.size := (Array.getElem?_eq_some_iff.1 hq2).1
      have hkQ : k < Q.length := by omega
      clear hstep htr hz ho hB hq hQl hQk hb2 hq2 hB2 hset0 hown0
      go_loopg [7] R' (fun gk s wr2 => ∃ d : Nat, NumD wr2 s gk ∧ wr2.heap[w.heap.size]? = some (.cells ((Q.set k (d : Int)).map (Value.int .i64)).toArray 3 (0, 0)) ∧ Aside (gk + M * d = R' ∧ (∀ b, s.ownBlock = some b → w.heap.size < b) ∧ Below w.heap.size w wr2))
      case atStart =>
        refine ⟨0, HS2.out.2.2.2.1, ?_, by omega, HS2.out.2.2.2.2, HS2.out.2.1⟩
        rw [show ((0 : Nat) : Int) = 0 from rfl, HS2.out.2.2.1]
        exact HS2.out.1
      case round =>
        obtain ⟨d, hg, hqq, has⟩ := hrel
        obtain ⟨hsum, ho, hB⟩ := has.out
        have lg : (Nm.grp 10 gk).length ≤ 1001 := Nat.le_trans (grp10_len_mono (by omega)) lR2
        have hd9 : d ≤ 9 := by
          have h1 : M * d ≤ R' := by omega
          have h2 : R' / M < 10 := hdd
          have h3 : d ≤ R' / M := (Nat.le_div_iff_mul_le hM).2 (by rw [Nat.mul_comm]; exact h1)
          omega
        have HO := Lib.hid (order_any gk M _ _ wr hg (HU.out.below hB) (by omega) (by omega))
        by_cases hge : M ≤ gk
        · have HMI := Lib.hid (fun w3 (h : Below wr.heap.size wr w3) => minusD_any gk M hge _ _ w3 (hg.below h) ((HU.out.below hB).below h) (by omega))
          have hsg : (0 : Int) ≤ Nm.sgn (gk : Int) (M : Int) := by
            unfold Nm.sgn
            rw [if_neg (by omega)]
            split <;> omega
          generalize Nm.sgn (gk : Int) (M : Int) = σ at *
          have hdq : (Q.set k (d : Int))[k]? = some (d : Int) := by simp [hkQ]
          obtain ⟨f1, f2⟩ := row_at wr _ _ hqq k _ hdq
          have HHS := Lib.hid (And.intro hqq (And.intro hsum (And.intro hB hge)))
          have hwd : IntKind.i64.wrap ((d : Int) + 1) = (d : Int) + 1 := IntWalk.i64_in _ (by omega)
          clear hqq hsum hB has hdq hge hg ho
          go_wp2_with (first | (go_at_call 132; (with_reducible refine HO.out.mono ?_); rintro e w4 ⟨rfl, hb4⟩) | (go_at_call 137; (with_reducible refine (HMI.out _ hb4).mono ?_); rintro e w5 ⟨⟨r5, rfl, hr5, ho5⟩, hb5⟩; have HR5 := Lib.hid (And.intro hr5 ho5); clear hr5 ho5; have f3 := cell_below hb5 (cell_below hb4 f1); have f4 := (hb5.frozen (World.block_lt_of_cell? _ _ (cell_below hb4 f1))).trans ((hb4.frozen (World.block_lt_of_cell? _ _ f1)).trans f2)))
          obtain ⟨hqq, hsum, hB, hge⟩ := HHS.out
          have hb45 : Below wr.heap.size wr w5 := hb4.trans (hb5.mono hb4.size)
          have hqlt2 : w.heap.size < wr.heap.size := (Array.getElem?_eq_some_iff.1 hqq).1
          have hq5 := (hb45.block w.heap.size hqlt2).trans hqq
          have hown5 : ∀ b, r5.ownBlock = some b → w.heap.size < b := fun b hb => by
            have := HR5.out.2 b hb
            have := hb4.size
            omega
          have hn5 := HR5.out.1.set hown5 k (.int .i64 ((d : Int) + 1))
          have hr5 := row_set w5 w.heap.size _ hq5 k ((d : Int) + 1)
          rw [List.set_set] at hr5
          go_roundg (gk - M)
          case measure => omega
          case rel =>
            refine ⟨d + 1, hn5, ?_, by rw [Nat.mul_add]; omega, hown5, (hB.trans (hb45.mono hB.size)).setCell (p := ⟨w.heap.size, k, none⟩) (Nat.le_refl _) _⟩
            exact hr5
        · have hsg : Nm.sgn (gk : Int) (M : Int) = -1 := by
            unfold Nm.sgn
            rw [if_pos (by omega)]
          rw [hsg] at HO
          have hdm : d = R' / M ∧ gk = R' % M := by
            have h1 : R' / M = d := by
              rw [← hsum, Nat.add_mul_div_left _ _ hM, Nat.div_eq_of_lt (by omega), Nat.zero_add]
            have h2 : R' % M = gk := by
              rw [← hsum, Nat.add_mul_mod_self_left, Nat.mod_eq_of_lt (by omega)]
            exact ⟨h1.symm, h2.symm⟩
          have HF := Lib.hid (And.intro hdm (And.intro hg (And.intro hqq (And.intro ho hB))))
          clear hdm hg hqq ho hB has hge hsg hsum
          go_wp2_with (first | (go_at_call 132; (with_reducible refine HO.out.mono ?_); rintro e w4 ⟨rfl, hb4⟩))
          obtain ⟨⟨hd1, hd2⟩, hg, hqq, ho, hB⟩ := HF.out
          subst hd1
          obtain ⟨hstep, _, hz, _⟩ := HS.out
          refine ⟨⟨k, gk, Q.set k ((R' / M : Nat) : Int), rfl, by omega, hg.below hb4, (hb4.block _ (Array.getElem?_eq_some_iff.1 hqq).1).trans hqq, ?_, ?_, ho, hB.trans (hb4.mono hB.size)⟩, ?_⟩
          · rw [hd2]; exact hstep
          · intro j hj
            rw [List.getElem?_set_ne (by omega)]
            exact hz j (by omega)
          · simp [intOf] <;> omega
end Go.Proofs.YtbenflnpnohcjaaGreatDoor
