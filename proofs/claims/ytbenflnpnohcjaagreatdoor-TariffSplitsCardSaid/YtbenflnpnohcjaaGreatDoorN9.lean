/- The contract of number.over: the long division. -/
import Derived.Test.YtbenflnpnohcjaaGreatDoorNmOver
import Derived.Test.YtbenflnpnohcjaaGreatDoorT10
import Derived.Sort.CutIn
import Derived.Stop.RegionWithIn
import Derived.Laws.EntriesVeiled
import Derived.OwnWalkIn
import Derived.Laws.OwnMore
namespace Go.Proofs.YtbenflnpnohcjaaGreatDoor
open Go.RowKit Go.Shelf

attribute [local go_sem] Oper.semAt_some

theorem wpListIn_append_nil {F : Fence} {n : Nat} {P : Program} (w : World) {ops : Array Oper} {rest : List Oper} {o : Oper} {a : Act} {Q : Exit → Act → World → Prop} (hg : o.guard = none) (s x : Operand) (t : TypeId)
    (hop : o.op = Op.call { callee := Callee.builtin Builtin.append, args := #[s, x], argTypes := #[t, t] })
    (base : Nat) (e : TypeId) (i : TypeInfo) (size : Nat) (ht : P.underlying t = some (.slice e)) (hi : P.info? e = some i)
    (v : Value) (k : Nat) (xs : List Value) (hs : a.eval s = v) (hown : w.ownsRow base e size v k xs) (hx : a.eval x = .slice none 0 0)
    (h : wpListIn F n P ops Q rest (a.put o.dst v) w) : wpListIn F n P ops Q (o :: rest) a w := by
  refine wpListIn_plain hg fun K hK => ?_
  have hrun := run_append_owned_none (P := P) (w := w) base t o.type e i size ht hi v k xs hown
  unfold Oper.wpIn
  refine ⟨?_, ?_⟩
  · simp [Oper.about, hop, resolve, Target.leads, Sem.run_pure]
  · rw [Oper.semAt_plain F _ _ (by rw [hop]; intro c hc'; cases hc')]
    simp [execOp, hop, resolve, invoke, builtin, hs, hx, hrun, Result.andThen]
    exact hK _ _ h

/-- A number in a variable, whose groups do not lie in a given block. -/
def RV (W : World) (B q : Nat) (R : Nat) : Prop := ∃ rv, Boxed W B 112 rv ∧ NumV W rv R ∧ ∀ b, rv.ownBlock = some b → q < b
theorem SlAt.grown {W W' : World} {row : Option Nat} {A : Option Addr} {l : List Int} (h : SlAt W A l) (hg : W.grownBy W' row) (hr : ∀ r, row = some r → ∃ o : Obj, W.heap[r]? = some o ∧ o.isCells = false) : SlAt W' A l := by
  rcases h with h | ⟨b, h1, h2⟩
  · exact .inl h
  by_cases hl : l = []
  · exact .inl hl
  refine .inr ⟨b, h1, Nat.lt_of_lt_of_le h2.1 hg.size, fun j hj => ?_⟩
  have hne : some b ≠ row := fun e => by
    obtain ⟨o, ho, hc⟩ := hr b e.symm
    have h3 := h2.2 j hj
    simp only [World.cell?, ho] at h3
    cases o <;> simp_all [Obj.isCells]
  have := hg.block b h2.1 hne
  have h3 := h2.2 j hj
  simp only [World.cell?] at h3 ⊢
  rw [this]
  exact h3
theorem rv_own {β : Type} (B q : Nat) (f : β → Nat) : Own (fun (s : β) W => RV W B q (f s)) := fun s X Y row hs hg hr => by
  obtain ⟨rv, h1, ⟨A, c, rfl, h2, h3⟩, h4⟩ := hs
  exact ⟨_, boxed_own B 112 (fun _ : Unit => _) () X Y row h1 hg hr, ⟨A, c, rfl, h2.grown hg hr, h3⟩, h4⟩

theorem trim_pre : ∀ (l : List Int), ∃ m, l = Nm.trim l ++ m
  | [] => ⟨[], by simp [Nm.trim]⟩
  | x :: l => by
    obtain ⟨m, hm⟩ := trim_pre l
    simp only [Nm.trim]
    split
    · exact ⟨x :: l, by simp⟩
    · exact ⟨m, by rw [List.cons_append, ← hm]⟩
theorem NumV.grown {W W' : World} {row : Option Nat} {v : Value} {N : Nat} (h : NumV W v N) (hg : W.grownBy W' row) (hr : ∀ r, row = some r → ∃ o : Obj, W.heap[r]? = some o ∧ o.isCells = false) : NumV W' v N := by
  obtain ⟨A, c, rfl, h2, h3⟩ := h
  exact ⟨A, c, rfl, h2.grown hg hr, h3⟩
theorem NumV.set {W : World} {v : Value} {N : Nat} (h : NumV W v N) {B : Nat} (hB : v.ownBlock ≠ some B) (u : Value) : NumV (W.setCell ⟨B, 0, none⟩ u) v N := by
  obtain ⟨A, c, rfl, q1, q2⟩ := h
  refine ⟨A, c, rfl, ?_, q2⟩
  refine q1.kps ((KpS.refl (fun k _ => k = B) W).setCell (p := ⟨B, 0, none⟩) (fun _ _ _ _ => rfl) _) ?_
  intro ad had _ t h
  exact hB (by rw [had]; show some ad.block = _; rw [h])
theorem heap_setcell_at (W : World) (a : Addr) (v : Value) {c : Array Value} {t : TypeId} {f : Nat × Nat} (hs : a.spot = none) (h : W.heap[a.block]? = some (.cells c t f)) : (W.setCell a v).heap[a.block]? = some (.cells (c.setIfInBounds a.off v) t f) := by
  simp [World.setCell, Array.getElem?_modify, h, hs]
theorem heap_set_other' (W : World) (a : Addr) (k : Nat) (v : Value) (h : k ≠ a.block) : (W.setCell a v).heap[k]? = W.heap[k]? := by
  simp only [World.setCell, Array.getElem?_modify]
  rw [if_neg (fun e => h e.symm)]
theorem boxed_setoff {W : World} {B : Nat} {t : TypeId} {v : Value} (h : Boxed W B t v) (a : Addr) (hne : B ≠ a.block) (u : Value) : Boxed (W.setCell a u) B t v := (heap_set_other' W a B u hne).trans h
theorem row_cell (W : World) (B : Nat) (Q : List Int) (h : W.heap[B]? = some (.cells (Q.map (Value.int .i64)).toArray 3 (0, 0))) (i : Nat) (x : Int) (hi : Q[i]? = some x) : W.cell? ⟨B, i, none⟩ = some (.int .i64 x) ∧ W.frozen? ⟨B, i, none⟩ = false := by
  simp [World.cell?, World.frozen?, h, hi]

set_option maxRecDepth 100000 in
set_option maxHeartbeats 8000000 in
theorem over_any (N M : Nat) (hM : 0 < M) (v u : Value) (w : World) (hv : NumV w v N) (hu : NumV w u M) (lN : (Nm.grp 10000 N).length ≤ 1000) (lM : (Nm.grp 10000 M).length ≤ 1000) :
    Calls Tryz.prog 94 #[v, u] w fun e w' => (∃ q r, e = .returned (.tuple #[q, r]) ∧ NumV w' q (N / M) ∧ NumV w' r (N % M)) ∧ Below w.heap.size w w' := by
  obtain ⟨A, c, rfl, h1, h2, h3, h4⟩ := hv
  have hover := Nm.over_grp N M hM
  have hinr := Nm.inR_grp (b := 10000) (by omega) N
  generalize Nm.grp 10000 N = l at *
  obtain ⟨i0, hi0, hz0, hz1, hz2⟩ := info_parts Tryz.info3
  have hu112 : Tryz.prog.underlying 112 = some (.slice 3) := by kernel_rfl
  obtain ⟨A', c', hueq, k1, k2, k3, k4⟩ := id hu
  have hmk : ∀ W, (Instr.makeSlice 112 (.int .i64 (l.length : Int)) (.int .i64 (l.length : Int))).run Tryz.prog W = .ok (.slice (some ⟨W.heap.size, 0, none⟩) l.length l.length) (W.alloc (.cells ((List.replicate l.length (0 : Int)).map (Value.int .i64)).toArray 3)) := fun W => by
    have h := run_makeSlice (P := Tryz.prog) (w := W) 112 3 i0 (.int .i64 0) hu112 hi0 hz0 .i64 .i64 (l.length : Int) (l.length : Int) (by omega) (Int.le_refl _) (by rw [hz1]; simp; omega) (by rw [hz2]; omega) (by omega)
    rw [h, Int.toNat_natCast, hz1]
    congr 3
    apply Array.toList_inj.1
    rw [Nat.mul_one]
    show (madeCells #[.int .i64 0] l.length).toList = _
    rw [toList_madeCells_one]
    simp
  have HSP := Lib.hid (fun W => backward_any A l.length c W)
  subst hueq
  refine wideC' (n := 10) ?_
  refine callsIn_of_wp_marks Tryz.func94 rfl trivial ?_ rfl
  simp only [Tryz.ntmps94, List.size_toArray, List.length_cons, List.length_nil, Nat.reduceAdd, Nat.reduceSub, Array.replicate_succ, Array.replicate_zero, List.push_toArray, List.append_toArray, List.nil_append, List.cons_append]
  gi_wp2_with (refine ⟨trivial, ?_⟩; gi_at_call 114; refine (wideC (HSP.out _)).mono ?_; rintro e w1 ⟨rfl, rfl⟩)
  obtain ⟨W0, hW0⟩ : ∃ W0, (((((w.alloc (.cells #[.slice A' (Nm.grp 10000 M).length c'] 112)).alloc (.cells #[.slice (some ⟨w.heap.size + 1 + 1 + 1, 0, none⟩) l.length l.length] 112)).alloc (.cells #[.slice none 0 0] 112)).alloc (.cells (Array.replicate l.length (.int .i64 0)) 3)).alloc (.cells #[.slice A l.length c] 112)) = W0 := ⟨_, rfl⟩
  rw [hW0]
  have hsz : W0.heap.size = w.heap.size + 5 := by rw [← hW0]; simp
  have hB0 : Below w.heap.size w W0 := by
    rw [← hW0]
    exact (((((Below.refl _ w).alloc (Nat.le_refl _) _).alloc (by simp) _).alloc (by simp; omega) _).alloc (by simp; omega) _).alloc (by simp; omega) _
  have y1 : Boxed W0 w.heap.size 112 (.slice A' (Nm.grp 10000 M).length c') := by rw [← hW0]; exact ((((boxed_new' w 112 _ rfl).alloc _).alloc _).alloc _).alloc _
  have y2 : Boxed W0 (w.heap.size + 1) 112 (.slice (some ⟨w.heap.size + 1 + 1 + 1, 0, none⟩) l.length l.length) := by rw [← hW0]; exact (((boxed_new' _ 112 _ (by simp)).alloc _).alloc _).alloc _
  have y3 : Boxed W0 (w.heap.size + 1 + 1) 112 (.slice none 0 0) := by rw [← hW0]; exact ((boxed_new' _ 112 _ (by simp)).alloc _).alloc _
  have y4 : W0.heap[w.heap.size + 1 + 1 + 1]? = some (.cells ((List.replicate l.length (0 : Int)).map (Value.int .i64)).toArray 3 (0, 0)) := by
    rw [← hW0, heap_past _ _ (by simp), heap_at _ _ (by simp)]
    simp
  have y5 : Boxed W0 (w.heap.size + 1 + 1 + 1 + 1) 112 (.slice A l.length c) := by rw [← hW0]; exact boxed_new' _ 112 _ (by simp)
  have hlt : ∀ ad, A = some ad → l ≠ [] → ad.block < w.heap.size := fun ad had hne => by
    rcases h1 with h | ⟨b', h1, h2⟩
    · exact absurd h hne
    · rw [had] at h1; cases h1; exact h2.1
  clear hW0 HSP hmk
  refine wpIn_rangeFunc_ownH rfl (by omega) (gf := 146) (lb := #[.pointer (some ⟨w.heap.size + 1 + 1 + 1 + 1, 0, none⟩)]) rfl trivial (enters_of Tryz.func146 (by kernel_rfl) rfl)
    (backward1_stops (fun k t => k = w.heap.size + 1 + 1 ∨ k = w.heap.size + 1 + 1 + 1) 9 (by omega) A c l (by omega) (w.heap.size + 1 + 1 + 1 + 1) W0 y5 (h1.below hB0) (by omega)
      (fun ad had hne => by have := hlt ad had hne; intro t; omega))
    kpS_t kpS_b (Below.refl _ _) (fun _ => rfl)
    (fun pre W => Boxed W w.heap.size 112 (.slice A' (Nm.grp 10000 M).length c') ∧ Boxed W (w.heap.size + 1) 112 (.slice (some ⟨w.heap.size + 1 + 1 + 1, 0, none⟩) l.length l.length) ∧ W.heap[w.heap.size + 1 + 1 + 1]? = some (.cells ((Nm.ovAt M l pre).1.map (Value.int .i64)).toArray 3 (0, 0)) ∧ RV W (w.heap.size + 1 + 1) (w.heap.size + 1 + 1 + 1) (Nm.ovAt M l pre).2 ∧ Below w.heap.size w W)
    (fun _ _ _ => False)
    (OwnFrom.and (Own.from (boxed_own _ _ _) _) (OwnFrom.and (Own.from (boxed_own _ _ _) _) (OwnFrom.and (Own.from (row_own _ (fun pre => ((Nm.ovAt M l pre).1.map (Value.int .i64)).toArray) _ _) _) (OwnFrom.and (Own.from (rv_own _ _ _) _) (ownFrom_below (Nat.le_refl _) (by omega))))))
    (fun _ _ _ _ _ hs _ _ => hs)
    ⟨y1, y2, y4, ⟨_, y3, ⟨none, 0, by rw [show Nm.grp 10000 (Nm.ovAt M l []).2 = [] from Nm.grp_zero _]; rfl, .inl (Nm.grp_zero _), by rw [show Nm.grp 10000 (Nm.ovAt M l []).2 = [] from Nm.grp_zero _]; simp, by omega, fun _ => rfl⟩, fun b h => by cases h⟩, hB0⟩
    (fun p a' W => a' = { tmps := #[.slice A l.length c, .slice A' (Nm.grp 10000 M).length c', undef, .pointer (some ⟨w.heap.size, 0, none⟩), .pointer (some ⟨w.heap.size + 1, 0, none⟩), .pointer (some ⟨w.heap.size + 1 + 1, 0, none⟩), .int .i64 (p.val : Nat), .int .i64 (gd l p.val), undef, undef, .slice A l.length c, .int .i64 l.length, .slice (some ⟨w.heap.size + 1 + 1 + 1, 0, none⟩) l.length l.length, .slice A l.length c, .func (.func 146) #[] #[.pointer (some ⟨w.heap.size + 1 + 1 + 1 + 1, 0, none⟩)], .int .i64 (p.val : Nat), .int .i64 (gd l p.val), undef, undef, undef, undef, undef, undef, undef, undef, undef, undef, undef, undef, undef, undef, undef, undef, undef, undef, undef, undef, undef, undef, undef, undef], defers := [] })
    (fun p a' => fun _ _ _ _ hs _ _ => hs)
    ?assign ?body ?done ?stop
  case assign =>
    rintro ll pre p W K ⟨x1, x2, x3, x4, hB⟩ hK
    unfold encB
    gi_wp2
    exact hK _ _ (KeepsFrom.refl _ _) (KpS.refl _ W) ⟨x1, x2, x3, x4, hB⟩ rfl
  case body =>
    rintro ll pre p a' W hl hr ⟨x1, x2, x3, ⟨rv, x4, ⟨Ar, cr, rfl, r1, r2, r3, r4⟩, x6⟩, hB⟩ rfl hlen
    have c1 := x1.cell
    have c2 := x2.cell
    have c5 := x4.cell
    have f5 := x4.frozen
    have hok := Nm.ovAt_ok hM hinr pre
    have hstp := hok.step hinr p.isLt
    have hsnoc : Nm.ovAt M l (pre ++ [p]) = ((Nm.ovAt M l pre).1.set p.val ((((Nm.ovAt M l pre).2 * 10000 + (gd l p.val).toNat) / M : Nat) : Int), ((Nm.ovAt M l pre).2 * 10000 + (gd l p.val).toNat) % M) := Nm.ovAt_snoc M l pre p
    have hdd := hstp.2
    have hQl := hok.len
    have hRM := hok.rem
    clear hok hstp
    generalize (Nm.ovAt M l pre).2 = R at *
    generalize (Nm.ovAt M l pre).1 = Q at *
    have HOK := Lib.hid (And.intro hdd (And.intro hQl hsnoc))
    clear hdd hQl hsnoc
    have HX := Lib.hid (And.intro x1 (And.intro x2 (And.intro x3 (And.intro x4 hB))))
    have HR := Lib.hid r1
    clear x1 x2 x3 x4 hB r1
    have n0 := HX.out.1.lt
    have n1 := HX.out.2.1.lt
    have n2 := HX.out.2.2.2.1.lt
    have n3 : w.heap.size + 1 + 1 + 1 < W.heap.size := (Array.getElem?_eq_some_iff.1 HX.out.2.2.1).1
    have hown : (W.alloc (.cells #[.int .i64 (gd l p.val)] 3)).ownsRow W.heap.size 3 1 (.slice (some ⟨W.heap.size, 0, none⟩) 1 1) 1 [.int .i64 (gd l p.val)] := World.ownsRow_lit W #[.int .i64 (gd l p.val)] 1 (Nat.le_refl _) (by unfold maxLen; decide) rfl
    have htrim : Nm.trim (gd l p.val :: Nm.grp 10000 R) = Nm.grp 10000 (R * 10000 + (gd l p.val).toNat) := by
      have hx : 0 ≤ gd l p.val ∧ gd l p.val < 10000 := by
        unfold gd
        rw [List.getD_eq_getElem?_getD, List.getElem?_eq_getElem p.isLt, Option.getD_some]
        exact hinr _ (List.getElem_mem _)
      rw [Nm.trim_eq (b := 10000) (by omega) (Nm.InR.cons hx.1 hx.2 (Nm.inR_grp (by omega) R))]
      congr 1
      simp only [Nm.gv]
      rw [Nm.gv_grp (by omega)]
      omega
    have lR : (Nm.grp 10000 R).length ≤ 1000 := by
      exact Nat.le_trans (grp_len_mono (Nat.le_of_lt hRM)) lM
    dsimp only
    gi_upto_region 5 with fail
    gi_cut [17] from 41 (fun v17 Wc => ∃ r2, Boxed Wc (w.heap.size + 1 + 1) 112 r2 ∧ NumV Wc r2 (R * 10000 + (gd l p.val).toNat) ∧ (∀ b, r2.ownBlock = some b → w.heap.size + 1 + 1 + 1 < b) ∧ (∀ k, k < W.heap.size → k ≠ w.heap.size + 1 + 1 → Wc.heap[k]? = W.heap[k]?) ∧ KpS (fun k t => k = w.heap.size + 1 + 1 ∨ k = w.heap.size + 1 + 1 + 1) W Wc ∧ KeepsOthers W Wc ∧ Below w.heap.size w Wc)
    case first J1 K1 hJ1 hK1 =>
      have hfinal : ∀ (Wd : World) (v2 : Value), Below W.heap.size W Wd → NumV Wd v2 (R * 10000 + (gd l p.val).toNat) → (∀ b, v2.ownBlock = some b → W.heap.size ≤ b) → ∃ r2, Boxed (Wd.setCell ⟨w.heap.size + 1 + 1, 0, none⟩ v2) (w.heap.size + 1 + 1) 112 r2 ∧ NumV (Wd.setCell ⟨w.heap.size + 1 + 1, 0, none⟩ v2) r2 (R * 10000 + (gd l p.val).toNat) ∧ (∀ b, r2.ownBlock = some b → w.heap.size + 1 + 1 + 1 < b) ∧ (∀ k, k < W.heap.size → k ≠ w.heap.size + 1 + 1 → (Wd.setCell ⟨w.heap.size + 1 + 1, 0, none⟩ v2).heap[k]? = W.heap[k]?) ∧ KpS (fun k t => k = w.heap.size + 1 + 1 ∨ k = w.heap.size + 1 + 1 + 1) W (Wd.setCell ⟨w.heap.size + 1 + 1, 0, none⟩ v2) ∧ KeepsOthers W (Wd.setCell ⟨w.heap.size + 1 + 1, 0, none⟩ v2) ∧ Below w.heap.size w (Wd.setCell ⟨w.heap.size + 1 + 1, 0, none⟩ v2) := by
        intro Wd v2 hWd hN hO
        refine ⟨v2, (boxed_below HX.out.2.2.2.1 hWd n2).set _, ?_, ?_, ?_, ?_, ?_, ?_⟩
        · obtain ⟨A2, c2, rfl, q1, q2⟩ := hN
          refine ⟨A2, c2, rfl, ?_, q2⟩
          refine q1.kps ((KpS.refl (fun k _ => k = w.heap.size + 1 + 1) Wd).setCell (p := ⟨w.heap.size + 1 + 1, 0, none⟩) (fun _ _ _ _ => rfl) _) ?_
          intro ad had _ t h
          have := hO ad.block (by rw [had]; rfl)
          omega
        · intro b h
          have := hO _ h
          omega
        · intro k hk hne
          rw [heap_set_other _ _ _ _ hne]
          exact hWd.block k hk
        · exact (KpS.of_below hWd).setCell (p := ⟨w.heap.size + 1 + 1, 0, none⟩) (fun _ _ _ _ => .inl rfl) _
        · exact (keepsOthers_below hWd).trans (KeepsOthers.setCell _ _ _)
        · exact ((HX.out.2.2.2.2).trans (hWd.mono HX.out.2.2.2.2.size)).setCell (p := ⟨w.heap.size + 1 + 1, 0, none⟩) (by simp only; omega) _
      have HF := Lib.hid hfinal
      clear hfinal
      rcases Ar with _ | ad
      · obtain rfl := r4 rfl
        have hl0 : (Nm.grp 10000 R).length = 0 := by omega
        rw [hl0] at c5
        have hg0 := List.eq_nil_of_length_eq_zero hl0
        have hN := numV_trim (N := R * 10000 + (gd l p.val).toNat) (w := W.alloc (.cells #[.int .i64 (gd l p.val)] 3)) (base := W.heap.size) (v := .slice (some ⟨W.heap.size, 0, none⟩) 1 1) (l := [gd l p.val]) hown (by rw [hg0] at htrim; exact htrim) (by simp)
        have HN := Lib.hid hN
        clear hN
        gi_wp2_with (first | (gi_at_builtin; refine wpListIn_append_nil _ rfl _ _ 112 rfl W.heap.size 3 i0 1 hu112 hi0 _ 1 _ rfl hown rfl ?_) | (refine ⟨trivial, ?_⟩; gi_at_call 122; refine (wideC HN.out).mono ?_; rintro e w1 ⟨⟨v1, rfl, hv1, ho1⟩, rfl⟩; have HV1 := Lib.hid (And.intro hv1 ho1); obtain ⟨A1, c1', hveq, _⟩ := hv1; subst hveq))
        gi_meet
        case rel =>
          have hf := HF.out _ _ ((Below.refl _ W).alloc (Nat.le_refl _) (.cells #[.int .i64 (gd l p.val)] 3)) HV1.out.1 HV1.out.2
          rw [World.setCell_alloc_past _ _ _ _ n2] at hf
          exact hf
      · have hal := (Below.refl W.heap.size W).alloc (Nat.le_refl _) (.cells #[.int .i64 (gd l p.val)] 3)
        have hI1 : ∀ j u, ((Nm.grp 10000 R).map (Value.int .i64))[j]? = some u → (W.alloc (.cells #[.int .i64 (gd l p.val)] 3)).cell? (ad.add j) = some u := fun j u hj => by
          rcases HR.out.below hal with h | ⟨b, h, hI⟩
          · rw [h] at hj; simp at hj
          · cases h
            rw [List.getElem?_map] at hj
            by_cases hjl : j < (Nm.grp 10000 R).length
            · have h3 := hI.2 j hjl
              rw [List.getD_eq_getElem?_getD] at h3
              rw [List.getElem?_eq_getElem hjl] at hj h3
              simp only [Option.map_some, Option.some.injEq, Option.getD_some] at hj h3
              rw [← hj, ← h3]
              congr 1
              simp [Addr.add]
              exact fun h => h.symm
            · rw [List.getElem?_eq_none (by omega)] at hj; simp at hj
        have HI := Lib.hid hI1
        have HAL := Lib.hid hal
        clear hI1 hal
        gi_wp2_with (first | (gi_at_builtin; refine wpListIn_append_own _ rfl _ _ 112 rfl W.heap.size 3 i0 (.int .i64 0) 1 8 hu112 hi0 hz0 hz1 hz2 rfl (by decide) _ 1 [.int .i64 (gd l p.val)] rfl hown ad (Nm.grp 10000 R).length cr ((Nm.grp 10000 R).map (Value.int .i64)) rfl (by simp) ?k1 ?k2 ?k3 ?k4 ?k5 ?_; rotate_left 5; intro v2 w2 hown2 hgrow2 _; have hN := numV_trim (N := R * 10000 + (gd l p.val).toNat) (w := w2) (base := W.heap.size) (v := v2) (l := gd l p.val :: Nm.grp 10000 R) (by unfold OwnsInts; rw [List.length_cons, Nat.add_comm]; exact hown2) htrim (by simp; omega); have HN := Lib.hid hN; have hbw2 := HAL.out.grown hgrow2 (by simp) (fun k hk => (hown.lt k hk).1); have c52 := cell_below hbw2 c5; have f52 := (hbw2.frozen (p := ⟨w.heap.size + 1 + 1, 0, none⟩) n2).trans f5; have HG := Lib.hid hbw2; clear hN hown2 hgrow2 hbw2) | (refine ⟨trivial, ?_⟩; gi_at_call 122; refine (wideC HN.out).mono ?_; rintro e w1 ⟨⟨v1, rfl, hv1, ho1⟩, rfl⟩; have HV1 := Lib.hid (And.intro hv1 ho1); obtain ⟨A1, c1', hveq, _⟩ := hv1; subst hveq))
        case k1 => exact HI.out
        case k2 => intro u hu; obtain ⟨y, _, rfl⟩ := List.mem_map.1 hu; rfl
        case k3 => unfold maxLen; omega
        case k4 => omega
        case k5 => simp
        gi_meet
        case rel => exact HF.out _ _ HG.out HV1.out.1 HV1.out.2
    case rest =>
      obtain ⟨r2, z4, z5, z6, hblk, hkp, hko, hBc⟩ := hcut
      have z1 : Boxed wc w.heap.size 112 (.slice A' (Nm.grp 10000 M).length c') := (hblk _ n0 (by omega)).trans HX.out.1
      have z2 : Boxed wc (w.heap.size + 1) 112 (.slice (some ⟨w.heap.size + 1 + 1 + 1, 0, none⟩) l.length l.length) := (hblk _ n1 (by omega)).trans HX.out.2.1
      have z3 := (hblk _ n3 (by omega)).trans HX.out.2.2.1
      have d1 := z1.cell
      have d2 := z2.cell
      have d4 := z4.cell
      have e0 := z1.lt
      have e1 := z2.lt
      have e2 := z4.lt
      have HZ := Lib.hid (And.intro z1 (And.intro z2 (And.intro z3 (And.intro z4 (And.intro z5 (And.intro z6 (And.intro hblk (And.intro hkp (And.intro hko hBc)))))))))
      clear z1 z2 z3 z4 z5 z6 hblk hkp hko hBc htrim hown
      gi_upto_region 8 with fail
      obtain ⟨w1, hw1⟩ : ∃ w1, w1 = wc := ⟨_, rfl⟩
      subst hw1
      obtain ⟨wf, hwf⟩ : ∃ wf, w1.alloc (.cells #[.func (.func 123) #[.slice A' (Nm.grp 10000 M).length c'] #[]] 152) = wf := ⟨_, rfl⟩
      rw [hwf]
      obtain ⟨z1, z2, z3, z4, z5, z6, hblk, hkp, hko, hBc⟩ := HZ.out
      have hxs : (gd l p.val).toNat < 10000 := by
        have : 0 ≤ gd l p.val ∧ gd l p.val < 10000 := by
          unfold gd
          rw [List.getD_eq_getElem?_getD, List.getElem?_eq_getElem p.isLt, Option.getD_some]
          exact hinr _ (List.getElem_mem _)
        omega
      have hQl := HOK.out.2.1
      have hpQ : p.val < Q.length := by have := p.isLt; omega
      obtain ⟨old, hold⟩ : ∃ old, Q[p.val]? = some old := ⟨_, List.getElem?_eq_getElem hpQ⟩
      generalize hR' : R * 10000 + (gd l p.val).toNat = R' at *
      have hR'M : R' < M * 10000 := by
        have h2 : (R + 1) * 10000 ≤ M * 10000 := Nat.mul_le_mul_right _ hRM
        omega
      have lR' : (Nm.grp 10000 R').length ≤ 1001 := by
        have h1 := Nm.lt_pow_length (b := 10000) (by omega) M
        refine Nat.le_trans (grp_len_of_lt (k := (Nm.grp 10000 M).length + 1) ?_) (by omega)
        rw [Nat.pow_succ]
        have := Nat.mul_lt_mul_of_pos_right h1 (show 0 < 10000 by omega)
        omega
      have hdd : R' / M ≤ 9999 := HOK.out.1
      have hbwf : Below w1.heap.size w1 wf := by rw [← hwf]; exact (Below.refl _ w1).alloc (Nat.le_refl _) _
      have hsf : wf.heap.size = w1.heap.size + 1 := by rw [← hwf]; simp
      have hsc := hBc.size
      have hsW := hkp.size
      have hBf : Below w.heap.size w wf := hBc.trans (hbwf.mono hsc)
      have yf : Boxed wf w1.heap.size 152 (.func (.func 123) #[.slice A' (Nm.grp 10000 M).length c'] #[]) := by rw [← hwf]; exact boxed_new' _ 152 _ rfl
      have y1 := boxed_below z1 hbwf e0
      have y2 := boxed_below z2 hbwf e1
      have y4 := boxed_below z4 hbwf e2
      have y3 := (hbwf.block _ (by omega)).trans z3
      have y5 := z5.below hbwf
      obtain ⟨g1, g2⟩ := row_cell wf _ Q y3 p.val old hold
      have d1 := y1.cell
      have d2 := y2.cell
      have d4 := y4.cell
      have HY := Lib.hid (And.intro y1 (And.intro y2 (And.intro y3 (And.intro y4 (And.intro y5 yf)))))
      have HSZ := Lib.hid (And.intro hsf (And.intro hsc (And.intro hsW (And.intro hbwf hBf))))
      have HS := Lib.hid (sortSearch_any 9999 (by omega) 124 #[.pointer (some ⟨w1.heap.size, 0, none⟩), .pointer (some ⟨w.heap.size + 1 + 1, 0, none⟩)] (fun d => decide (R' < M * (d + 1))) wf.drew (enters_of Tryz.func124 (by kernel_rfl) rfl)
        (fun W5 i hi hb0 => have hb : Below wf.heap.size wf W5 := (Below.refl _ wf).drew.trans hb0; over1_any M R' i (by omega) w1.heap.size (w.heap.size + 1 + 1) _ _ W5 (hu.below (hBf.trans (hb.mono hBf.size))) (y5.below hb) (by omega) (by omega) (cell_below hb yf.cell) (cell_below hb y4.cell))
        (R' / M) hdd
        (fun i hi => by
          have h1 : M * (i + 1) ≤ M * (R' / M) := Nat.mul_le_mul_left _ hi
          have h2 := Nat.div_mul_le_self R' M
          rw [Nat.mul_comm] at h2
          exact decide_eq_false (by omega))
        (fun i h1 h2 => by
          have h3 : M * (R' / M + 1) ≤ M * (i + 1) := Nat.mul_le_mul_left _ (by omega)
          have h4 := Nat.lt_mul_div_succ R' hM
          exact decide_eq_true (by omega)))
      clear hwf z1 z2 z3 z4 z5 z6 hblk hkp hko hBc hQl hold y1 y2 y3 y4 y5 yf hsf hsc hsW hbwf hBf
      have hpl : ((p.val : Nat) : Int) < (l.length : Int) := by have := p.isLt; omega
      have hpl0 : (0 : Int) ≤ ((p.val : Nat) : Int) := by omega
      gi_cut [] from 41 (fun We => Boxed We w.heap.size 112 (.slice A' (Nm.grp 10000 M).length c') ∧ Boxed We (w.heap.size + 1) 112 (.slice (some ⟨w.heap.size + 1 + 1 + 1, 0, none⟩) l.length l.length) ∧ We.heap[w.heap.size + 1 + 1 + 1]? = some (.cells ((Q.set p.val ((R' / M : Nat) : Int)).map (Value.int .i64)).toArray 3 (0, 0)) ∧ Boxed We (w.heap.size + 1 + 1) 112 r2 ∧ NumV We r2 R' ∧ Boxed We w1.heap.size 152 (.func (.func 123) #[.slice A' (Nm.grp 10000 M).length c'] #[]) ∧ KpS (fun k t => k = w.heap.size + 1 + 1 ∨ k = w.heap.size + 1 + 1 + 1) W We ∧ KeepsOthers W We ∧ Below w.heap.size w We)
      case first J1 K1 hJ1 hK1 =>
        have HF : ∀ w2, Below wf.heap.size wf.drew w2 → (fun We => Boxed We w.heap.size 112 (.slice A' (Nm.grp 10000 M).length c') ∧ Boxed We (w.heap.size + 1) 112 (.slice (some ⟨w.heap.size + 1 + 1 + 1, 0, none⟩) l.length l.length) ∧ We.heap[w.heap.size + 1 + 1 + 1]? = some (.cells ((Q.set p.val ((R' / M : Nat) : Int)).map (Value.int .i64)).toArray 3 (0, 0)) ∧ Boxed We (w.heap.size + 1 + 1) 112 r2 ∧ NumV We r2 R' ∧ Boxed We w1.heap.size 152 (.func (.func 123) #[.slice A' (Nm.grp 10000 M).length c'] #[]) ∧ KpS (fun k t => k = w.heap.size + 1 + 1 ∨ k = w.heap.size + 1 + 1 + 1) W We ∧ KeepsOthers W We ∧ Below w.heap.size w We) (w2.setCell ⟨w.heap.size + 1 + 1 + 1, p.val, none⟩ (.int .i64 ((R' / M : Nat) : Int))) := by
          intro w2 hb0
          have hb2 : Below wf.heap.size wf w2 := (Below.refl _ wf).drew.trans hb0
          obtain ⟨y1, y2, y3, y4, y5, yf⟩ := HY.out
          obtain ⟨hsf, hsc, hsW, hbwf, hBf⟩ := HSZ.out
          obtain ⟨z1, z2, z3, z4, z5, z6, hblk, hkp, hko, hBc⟩ := HZ.out
          have hall := hbwf.trans (hb2.mono hbwf.size)
          have t1 := boxed_below y1 hb2 (by omega)
          have t2 := boxed_below y2 hb2 (by omega)
          have t4 := boxed_below y4 hb2 (by omega)
          have tf := boxed_below yf hb2 (by omega)
          refine ⟨boxed_setoff t1 _ (show w.heap.size ≠ w.heap.size + 1 + 1 + 1 by omega) _, boxed_setoff t2 _ (show w.heap.size + 1 ≠ w.heap.size + 1 + 1 + 1 by omega) _, ?_, boxed_setoff t4 _ (show w.heap.size + 1 + 1 ≠ w.heap.size + 1 + 1 + 1 by omega) _, ?_, boxed_setoff tf _ (show w1.heap.size ≠ w.heap.size + 1 + 1 + 1 by omega) _, ?_, ?_, ?_⟩
          · rw [heap_setcell_at w2 ⟨w.heap.size + 1 + 1 + 1, p.val, none⟩ _ rfl ((hb2.block (w.heap.size + 1 + 1 + 1) (by omega)).trans y3)]
            simp
          · obtain ⟨A2, c2, rfl, q1, q2⟩ := y5.below hb2
            refine ⟨A2, c2, rfl, ?_, q2⟩
            refine q1.kps ((KpS.refl (fun k _ => k = w.heap.size + 1 + 1 + 1) w2).setCell (p := ⟨w.heap.size + 1 + 1 + 1, p.val, none⟩) (fun _ _ _ _ => rfl) _) ?_
            intro ad had _ t h
            have := z6 ad.block (by rw [had]; rfl)
            omega
          · exact (hkp.below hall).setCell (p := ⟨w.heap.size + 1 + 1 + 1, p.val, none⟩) (fun _ _ _ _ => .inr rfl) _
          · exact (hko.trans (keepsOthers_below hall)).trans (KeepsOthers.setCell _ _ _)
          · exact (hBc.trans (hall.mono hsc)).setCell (p := ⟨w.heap.size + 1 + 1 + 1, p.val, none⟩) (by simp only; omega) _
        have HFF := Lib.hid HF
        clear HF
        have HCB := Lib.hid (fun w2 (hb0 : Below wf.heap.size wf.drew w2) => have hb2 : Below wf.heap.size wf w2 := (Below.refl _ wf).drew.trans hb0; And.intro (cell_below hb2 d2) (And.intro (cell_below hb2 g1) ((hb2.frozen (World.block_lt_of_cell? wf _ g1)).trans g2)))
        gi_region_with (refine ⟨trivial, ?_⟩; gi_at_call 125; refine (wideC HS.out).mono ?_; rintro e w2 ⟨rfl, hb2⟩; obtain ⟨q1, q2, q3⟩ := HCB.out _ hb2)
        all_goals (refine hK1 _ _ (Met.intro (hJ1 _ _ ?_)); (repeat apply Exists.intro); refine ⟨?_, rfl⟩; exact HFF.out _ hb2)
      case rest =>
        obtain ⟨z1, z2, z3, z4, z5, zf, hkp, hko, hBe⟩ := hcut
        have hpQ2 : (Q.set p.val ((R' / M : Nat) : Int))[p.val]? = some ((R' / M : Nat) : Int) := by simp [hpQ]
        have hcq := (row_cell wc _ _ z3 p.val _ hpQ2).1
        have hle : M * (R' / M) ≤ R' := Nat.mul_div_le R' M
        have hmod : R' - M * (R' / M) = R' % M := (Nat.mod_def R' M).symm
        have hsn := HOK.out.2.2
        have hsW := hkp.size
        have hse := hBe.size
        have HBY := Lib.hid (by_any M (R' / M) HOK.out.1 _ wc.drew (hu.below (hBe.trans ((Below.refl _ wc).drew.mono hBe.size))) (by omega))
        have HMIN := Lib.hid (fun w3 r3 (hb : Below wc.heap.size wc.drew w3) (h : NumV w3 r3 (M * (R' / M))) => minus_any R' (M * (R' / M)) hle r2 r3 w3 (z5.below ((Below.refl _ wc).drew.trans hb)) h (by omega))
        have HCB := Lib.hid (fun w3 (hb0 : Below wc.heap.size wc.drew w3) => have hb : Below wc.heap.size wc w3 := (Below.refl _ wc).drew.trans hb0; And.intro (boxed_below z4 hb z4.lt).cell (boxed_below z4 hb z4.lt).frozen)
        have HFIN : ∀ w3 w4 r4, Below wc.heap.size wc.drew w3 → Below w3.heap.size w3 w4 → NumV w4 r4 (R' - M * (R' / M)) → (∀ b, r4.ownBlock = some b → w3.heap.size ≤ b) →
            KeepsFrom W0.heap.size W (w4.setCell ⟨w.heap.size + 1 + 1, 0, none⟩ r4) ∧ KpS (fun k t => k = w.heap.size + 1 + 1 ∨ k = w.heap.size + 1 + 1 + 1) W (w4.setCell ⟨w.heap.size + 1 + 1, 0, none⟩ r4) ∧
            (Boxed (w4.setCell ⟨w.heap.size + 1 + 1, 0, none⟩ r4) w.heap.size 112 (.slice A' (Nm.grp 10000 M).length c') ∧ Boxed (w4.setCell ⟨w.heap.size + 1 + 1, 0, none⟩ r4) (w.heap.size + 1) 112 (.slice (some ⟨w.heap.size + 1 + 1 + 1, 0, none⟩) l.length l.length) ∧ (w4.setCell ⟨w.heap.size + 1 + 1, 0, none⟩ r4).heap[w.heap.size + 1 + 1 + 1]? = some (.cells ((Nm.ovAt M l (pre ++ [p])).1.map (Value.int .i64)).toArray 3 (0, 0)) ∧ RV (w4.setCell ⟨w.heap.size + 1 + 1, 0, none⟩ r4) (w.heap.size + 1 + 1) (w.heap.size + 1 + 1 + 1) (Nm.ovAt M l (pre ++ [p])).2 ∧ Below w.heap.size w (w4.setCell ⟨w.heap.size + 1 + 1, 0, none⟩ r4)) := by
          intro w3 w4 r4 hb0 hb4 hN hO
          rw [hmod] at hN
          have hb3 : Below wc.heap.size wc w3 := (Below.refl _ wc).drew.trans hb0
          have hb : Below wc.heap.size wc w4 := hb3.trans (hb4.mono hb3.size)
          have hs3 := hb3.size
          have t1 := boxed_below z1 hb (by omega)
          have t2 := boxed_below z2 hb (by omega)
          have t4 := boxed_below z4 hb (by omega)
          refine ⟨((hko.trans (keepsOthers_below hb)).trans (KeepsOthers.setCell _ _ _)).from _, (hkp.below hb).setCell (p := ⟨w.heap.size + 1 + 1, 0, none⟩) (fun _ _ _ _ => .inl rfl) _, boxed_setoff t1 _ (show w.heap.size ≠ w.heap.size + 1 + 1 by omega) _, boxed_setoff t2 _ (show w.heap.size + 1 ≠ w.heap.size + 1 + 1 by omega) _, ?_, ?_, (hBe.trans (hb.mono hBe.size)).setCell (p := ⟨w.heap.size + 1 + 1, 0, none⟩) (by simp only; omega) _⟩
          · rw [hsn, heap_set_other' _ _ _ _ (show w.heap.size + 1 + 1 + 1 ≠ w.heap.size + 1 + 1 by omega)]
            exact (hb.block _ (by omega)).trans z3
          · rw [hsn]
            refine ⟨r4, t4.set _, ?_, ?_⟩
            · obtain ⟨A2, c2, rfl, q1, q2⟩ := hN
              refine ⟨A2, c2, rfl, ?_, q2⟩
              refine q1.kps ((KpS.refl (fun k _ => k = w.heap.size + 1 + 1) w4).setCell (p := ⟨w.heap.size + 1 + 1, 0, none⟩) (fun _ _ _ _ => rfl) _) ?_
              intro ad had _ t h
              have := hO ad.block (by rw [had]; rfl)
              omega
            · intro b h
              have := hO _ h
              omega
        have HFF := Lib.hid HFIN
        have m1 := z4.cell
        have m2 := zf.cell
        have m3 := z2.cell
        have m4 := z4.frozen
        clear HFIN z1 z2 z3 z4 z5 zf hkp hko hBe hpQ2 hle hmod hsn hsW hse hR'M lR' hdd g1 g2 d1 d2 d4 HS HSZ HY HZ
        gi_upto_region 9 with fail
        gi_region_with (first | (refine ⟨trivial, ?_⟩; gi_at_call 123; refine (wideC HBY.out).mono ?_; rintro e w3 ⟨⟨r3, rfl, hr3, _⟩, hb3⟩; obtain ⟨q1, q2⟩ := HCB.out _ hb3; have HR3 := Lib.hid hr3; obtain ⟨A3, cc3, hveq, _⟩ := hr3; subst hveq) | (refine ⟨trivial, ?_⟩; gi_at_call 97; refine (wideC (HMIN.out _ _ hb3 HR3.out)).mono ?_; rintro e w4 ⟨⟨r4, rfl, hr4, ho4⟩, hb4⟩; have HV4 := Lib.hid (And.intro hr4 ho4); obtain ⟨A4, cc4, hveq, _⟩ := hr4; subst hveq; have q5 := cell_below hb4 q1; have q6 := (hb4.frozen (World.block_lt_of_cell? _ _ q1)).trans q2))
        all_goals exact HFF.out _ _ _ hb3 hb4 HV4.out.1 HV4.out.2
  case done =>
    rintro D ys W hD rfl ⟨x1, x2, x3, ⟨rv, x4, ⟨Ar, cr, rfl, r1, r2, r3, r4⟩, x6⟩, hB⟩ hK
    obtain ⟨hv1, hv2⟩ := hover
    have hQl := (Nm.ovAt_ok hM hinr (backAll l)).len
    generalize (Nm.ovAt M l (backAll l)).2 = R at *
    generalize (Nm.ovAt M l (backAll l)).1 = Q at *
    subst hv2
    have hsl : SlAt W.drew (some ⟨w.heap.size + 1 + 1 + 1, 0, none⟩) Q := by
      refine .inr ⟨_, rfl, (Array.getElem?_eq_some_iff.1 x3).1, fun j hj => ?_⟩
      exact (row_cell W _ Q x3 j _ (by rw [List.getD_eq_getElem?_getD, List.getElem?_eq_getElem hj, Option.getD_some])).1
    have ht := trimmed_any (some ⟨w.heap.size + 1 + 1 + 1, 0, none⟩) l.length Q W.drew hsl (by omega) (by omega) (by omega)
    rw [hQl, hv1] at ht
    have HT := Lib.hid ht
    clear ht hsl
    have m1 := x2.cell
    have m2 := x4.cell
    have m3 := x2.frozen
    have m4 := x4.frozen
    have HX := Lib.hid (And.intro x1 (And.intro x2 (And.intro x3 (And.intro x4 (And.intro r1 (And.intro r2 (And.intro r3 (And.intro r4 (And.intro hB (And.intro hK x6))))))))))
    clear x1 x2 x3 x4 r1 r2 r3 r4 hB x6
    have hHF : ∃ m, Q = Nm.grp 10000 (N / M) ++ m := by rw [← hv1]; exact trim_pre Q
    have hsl2 : SlAt W (some ⟨w.heap.size + 1 + 1 + 1, 0, none⟩) Q := by
      refine .inr ⟨_, rfl, (Array.getElem?_eq_some_iff.1 HX.out.2.2.1).1, fun j hj => ?_⟩
      exact (row_cell W _ Q HX.out.2.2.1 j _ (by rw [List.getD_eq_getElem?_getD, List.getElem?_eq_getElem hj, Option.getD_some])).1
    have hHL : (Nm.grp 10000 (N / M)).length ≤ l.length := by
      obtain ⟨m, hm⟩ := hHF
      rw [← hQl, hm]
      simp
    have hN1 : NumV W (.slice (some ⟨w.heap.size + 1 + 1 + 1, 0, none⟩) (Nm.grp 10000 (N / M)).length l.length) (N / M) := by
      obtain ⟨m, hm⟩ := hHF
      exact ⟨_, _, rfl, SlAt.pre (m := m) (by rw [← hm]; exact hsl2), hHL, by omega, fun e => by cases e⟩
    have HN := Lib.hid hN1
    have HLT := Lib.hid (show l.length ≤ 9223372036854775807 ∧ w.heap.size + 5 ≤ W0.heap.size from ⟨by omega, by omega⟩)
    clear hN1 hsl2 hHF hHL
    gi_upto_region 10 with fail
    gi_cut [] from 41 (fun We => Boxed We (w.heap.size + 1) 112 (.slice (some ⟨w.heap.size + 1 + 1 + 1, 0, none⟩) (Nm.grp 10000 (N / M)).length l.length) ∧ Boxed We (w.heap.size + 1 + 1) 112 (.slice Ar (Nm.grp 10000 (N % M)).length cr) ∧ NumV We (.slice (some ⟨w.heap.size + 1 + 1 + 1, 0, none⟩) (Nm.grp 10000 (N / M)).length l.length) (N / M) ∧ NumV We (.slice Ar (Nm.grp 10000 (N % M)).length cr) (N % M) ∧ Below w.heap.size w We ∧ We.heap[D]? = some (.deferred (some [])))
    case first J1 K1 hJ1 hK1 =>
      have HF : (fun We => Boxed We (w.heap.size + 1) 112 (.slice (some ⟨w.heap.size + 1 + 1 + 1, 0, none⟩) (Nm.grp 10000 (N / M)).length l.length) ∧ Boxed We (w.heap.size + 1 + 1) 112 (.slice Ar (Nm.grp 10000 (N % M)).length cr) ∧ NumV We (.slice (some ⟨w.heap.size + 1 + 1 + 1, 0, none⟩) (Nm.grp 10000 (N / M)).length l.length) (N / M) ∧ NumV We (.slice Ar (Nm.grp 10000 (N % M)).length cr) (N % M) ∧ Below w.heap.size w We ∧ We.heap[D]? = some (.deferred (some [])))
          (((W.setCell ⟨w.heap.size + 1, 0, none⟩ (.slice (some ⟨w.heap.size + 1 + 1 + 1, 0, none⟩) (Nm.grp 10000 (N / M)).length l.length)).setCell ⟨w.heap.size + 1 + 1, 0, none⟩ (.slice Ar (Nm.grp 10000 (N % M)).length cr)).drew) := by
        obtain ⟨x1, x2, x3, x4, r1, r2, r3, r4, hB, hK, x6⟩ := HX.out
        have o1 : (Value.slice (some ⟨w.heap.size + 1 + 1 + 1, 0, none⟩) (Nm.grp 10000 (N / M)).length l.length).ownBlock = some (w.heap.size + 1 + 1 + 1) := rfl
        have hr1 : (Value.slice Ar (Nm.grp 10000 (N % M)).length cr).ownBlock ≠ some (w.heap.size + 1) ∧ (Value.slice Ar (Nm.grp 10000 (N % M)).length cr).ownBlock ≠ some (w.heap.size + 1 + 1) := by
          constructor <;> (intro h; have := x6 _ h; omega)
        refine ⟨boxed_setoff (x2.set _) _ (show w.heap.size + 1 ≠ w.heap.size + 1 + 1 by omega) _, (boxed_setoff x4 _ (show w.heap.size + 1 + 1 ≠ w.heap.size + 1 by omega) _).set _, ?_, ?_, ?_, ?_⟩
        · exact (HN.out.set (by rw [o1]; intro h; have := Option.some.inj h; omega) _).set (by rw [o1]; intro h; have := Option.some.inj h; omega) _
        · exact ((show NumV W (.slice Ar (Nm.grp 10000 (N % M)).length cr) (N % M) from ⟨_, _, rfl, r1, r2, r3, r4⟩).set hr1.1 _).set hr1.2 _
        · exact ((hB.setCell (p := ⟨w.heap.size + 1, 0, none⟩) (by simp only; omega) _).setCell (p := ⟨w.heap.size + 1 + 1, 0, none⟩) (by simp only; omega) _).drew
        · have := HLT.out.2
          show ((W.setCell _ _).setCell _ _).heap[D]? = _
          rw [heap_set_other' _ _ _ _ (show D ≠ w.heap.size + 1 + 1 by omega), heap_set_other' _ _ _ _ (show D ≠ w.heap.size + 1 by omega)]
          exact hK
      have HFF := Lib.hid HF
      clear HF
      gi_region_with (refine ⟨trivial, ?_⟩; gi_at_call 122; refine (wideC HT.out).mono ?_; rintro e w1 ⟨rfl, rfl⟩)
      all_goals (refine hK1 _ _ (Met.intro (hJ1 _ _ ?_)); (repeat apply Exists.intro); refine ⟨?_, rfl⟩; exact HFF.out)
    case rest =>
      obtain ⟨x1, x2, n1, n2, hB, hK⟩ := hcut
      gi_wp2
      refine ⟨by simp, .inl ⟨_, _, rfl, run_takeDeferred hK, ?_⟩⟩
      have hD2 := HLT.out.2
      have c4 := (x1.kept (grownBy_putObj' _ D (.deferred none)) (by simp; omega)).cell
      have c5 := (x2.kept (grownBy_putObj' _ D (.deferred none)) (by simp; omega)).cell
      have hnd : ∀ r, some D = some r → ∃ o : Obj, wc.heap[r]? = some o ∧ o.isCells = false := fun r e => by cases e; exact ⟨_, hK, rfl⟩
      refine ⟨.tuple #[.slice (some ⟨w.heap.size + 1 + 1 + 1, 0, none⟩) (Nm.grp 10000 (N / M)).length l.length, .slice Ar (Nm.grp 10000 (N % M)).length cr], ?_, ⟨_, _, rfl, n1.grown (grownBy_putObj' _ D (.deferred none)) hnd, n2.grown (grownBy_putObj' _ D (.deferred none)) hnd⟩, hB.trans (belowK_b (w := w) (Nat.le_refl _) _ D _ _ (by omega) hK rfl rfl)⟩
      simp [results, Tryz.results94, go_sem, c4, c5]
  case stop =>
    rintro D cc pre W hD _ h _
    exact h.elim
end Go.Proofs.YtbenflnpnohcjaaGreatDoor
