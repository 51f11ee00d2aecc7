/- The text of an integer. -/
import Derived.Test.YtbenflnpnohcjaaGreatDoorBld
import Derived.Test.YtbenflnpnohcjaaGreatDoorNmStr
import Derived.Test.YtbenflnpnohcjaaGreatDoorN8
import Derived.Sort.CutIn
import Derived.OwnWalkIn
import Derived.Lib.AppendIntMem
namespace Go.Proofs.YtbenflnpnohcjaaGreatDoor
open Go.RowKit Go.Shelf

attribute [local go_sem] Oper.semAt_some

/-- The table of powers of ten that the library's Itoa reads. -/
def Tab (w : World) : Prop := Lib.TabIs Tryz.prog w "internal/strconv.uint64pow10" .u64 Lib.pow10Tab
theorem Tab.below {w w' : World} (h : Tab w) (hb : Below w.heap.size w w') : Tab w' := Lib.tabBelow_of_tabIs h w' hb

/-- A numeral as a string. -/
def dsB (d : Nat) : ByteArray := ⟨(Lib.decDigits d).toArray⟩
theorem dsB_size (d : Nat) : (dsB d).size = (Lib.decDigits d).length := rfl
theorem itoa_any (d : Nat) (hd : d < 10000) (w : World) (h : Tab w) : Calls Tryz.prog 69 #[.int .i64 d] w fun e w' => e = .returned (.string (dsB d)) ∧ Below w.heap.size w w' := by
  refine (Tryz.strconv_Itoa d (by omega) (by omega) w h).mono ?_
  rintro e w' ⟨rfl, k, os, rfl⟩
  refine ⟨?_, Lib.below_grow _ w (Nat.le_refl _) k os⟩
  unfold Lib.itoa dsB
  rw [if_neg (by omega)]
  rfl
def zB (c : Nat) : ByteArray := ⟨(List.replicate c 48).toArray⟩
def pB (d : Nat) : ByteArray := ⟨(Nm.pad4 d).toArray⟩
theorem zeros_any (c : Nat) (hc : c ≤ 4) (w : World) : Calls Tryz.prog 90 #[.string ⟨#[48]⟩, .int .i64 c] w fun e w' => e = .returned (.string (zB c)) ∧ Below w.heap.size w w' := by
  refine (Tryz.strings_Repeat ⟨#[48]⟩ c w (by omega) (by show 1 * c ≤ _; omega)).mono ?_
  rintro e w' ⟨rfl, hb⟩
  refine ⟨?_, hb⟩
  have : Lib.repeatL [48] c = List.replicate c 48 := by
    have := Lib.repeatL_replicate 48 1 c
    simpa using this
  rw [show (⟨#[48]⟩ : ByteArray).data.toList = [48] from rfl, this]
  rfl
theorem pad_str (d : Nat) : zB (4 - (Lib.decDigits d).length) ++ dsB d = pB d := by
  apply Nm.ba_ext
  rw [ByteArray.data_append]
  simp [Nm.pad4, dsB, zB, pB]

/-- What one place of the loop writes. -/
def pieceL (l : List Int) (p : Nat) : List UInt8 := if p + 1 < l.length then Nm.pad4 (gd l p).toNat else Lib.decDigits (gd l p).toNat
def outAt (l : List Int) (ps : List (Fin l.length)) : List UInt8 := ps.foldl (fun a p => a ++ pieceL l p.val) []
theorem outAt_snoc (l : List Int) (ps : List (Fin l.length)) (p : Fin l.length) : outAt l (ps ++ [p]) = outAt l ps ++ pieceL l p.val := by simp [outAt]
theorem gd_grp (N k : Nat) : gd (Nm.grp 10000 N) k = ((N / 10000 ^ k % 10000 : Nat) : Int) := Nm.grp_getD k
theorem out_fold (N : Nat) : ∀ (k : Nat) (h : k ≤ (Nm.grp 10000 N).length), (backFrom (Nm.grp 10000 N).length k h).foldl (fun a p => a ++ pieceL (Nm.grp 10000 N) p.val) (Nm.tx N k) = Nm.tx N 0
  | 0, _ => by simp [backFrom]
  | k + 1, h => by
    simp only [backFrom, List.foldl_cons]
    rw [← out_fold N k (by omega)]
    congr 1
    unfold pieceL
    rw [gd_grp, Int.toNat_natCast]
    by_cases hk : k + 1 < (Nm.grp 10000 N).length
    · rw [if_pos hk, Nm.tx_step hk]
    · rw [if_neg hk, ← Nm.tx_top (N := N) (k := k) (by omega), show k + 1 = (Nm.grp 10000 N).length by omega, Nm.tx_end, List.nil_append]
theorem out_all (N : Nat) (h : N ≠ 0) : outAt (Nm.grp 10000 N) (backAll (Nm.grp 10000 N)) = Lib.decDigits N := by
  have := out_fold N (Nm.grp 10000 N).length (Nat.le_refl _)
  rw [Nm.tx_end, Nm.tx_all N h] at this
  exact this
theorem pieceL_len (l : List Int) (hl : Nm.InR 10000 l) (p : Nat) (hp : p < l.length) : (pieceL l p).length ≤ 4 ∧ (gd l p).toNat < 10000 ∧ (Lib.decDigits (gd l p).toNat).length ≤ 4 ∧ gd l p = ((gd l p).toNat : Int) := by
  have hx : 0 ≤ gd l p ∧ gd l p < 10000 := by
    unfold gd
    rw [List.getD_eq_getElem?_getD, List.getElem?_eq_getElem hp, Option.getD_some]
    exact hl _ (List.getElem_mem _)
  have h1 := Nm.pad4_eq (d := (gd l p).toNat) (by omega)
  refine ⟨?_, by omega, h1.1, by omega⟩
  unfold pieceL
  split
  · rw [h1.2]; simp
  · exact h1.1
theorem outAt_len (l : List Int) (hl : Nm.InR 10000 l) (ps : List (Fin l.length)) : (outAt l ps).length ≤ 4 * ps.length := by
  unfold outAt
  have h0 : ([] : List UInt8).length ≤ 4 * 0 := by simp
  suffices h : ∀ (ps : List (Fin l.length)) (a : List UInt8) (n : Nat), a.length ≤ 4 * n → (ps.foldl (fun a p => a ++ pieceL l p.val) a).length ≤ 4 * (n + ps.length) by
    have := h ps [] 0 h0
    omega
  intro ps
  induction ps with
  | nil => intro a n h; simpa using h
  | cons p ps ih =>
    intro a n h
    have h1 := (pieceL_len l hl p.val p.isLt).1
    have h2 := ih (a ++ pieceL l p.val) (n + 1) (by rw [List.length_append]; omega)
    simp only [List.foldl_cons, List.length_cons]
    omega

/-! The builder in a loop over an iterator. -/
def BldAt (b : Nat) (B : Nat) (l : List UInt8) (W : World) : Prop := Lib.IsBuilderF 138 5 B b (Lib.byteCells l) W
theorem bldAt_own {β : Type} (b B : Nat) (f : β → List UInt8) : Own (fun (s : β) W => BldAt b B (f s) W) := fun s X Y row hs hg hr => by
  have key : ∀ p, Lib.BuilderAtF 138 5 B b p (Lib.byteCells (f s)) X → Lib.BuilderAtF 138 5 B b p (Lib.byteCells (f s)) Y := fun p h => by
    obtain ⟨hB, v, hb, hown, hne⟩ := h
    have hbr : some b ≠ row := fun e => by
      obtain ⟨o, ho, hc⟩ := hr b e.symm
      rw [hb] at ho
      cases ho
      simp [Obj.isCells] at hc
    refine ⟨hB, v, (hg.block b (Array.getElem?_eq_some_iff.1 hb).1 hbr).trans hb, hown.kept hg ?_, hne⟩
    rcases hv : v.ownBlock with _ | g
    · exact .inl rfl
    · refine .inr fun e => ?_
      obtain ⟨o, ho, hc⟩ := hr g e.symm
      obtain ⟨c, fz, hcc⟩ := Lib.ownsRowF_kind hown g hv
      rw [hcc] at ho
      cases ho
      simp [Obj.isCells] at hc
  exact hs.elim (fun h => .inl (key _ h)) (fun h => .inr (key _ h))
theorem kpS_others {b B : Nat} {w w' : World} (h : Lib.OthersKept 5 (some b) w w') (hb : Below B w w') : KpS (fun k t => k = b ∨ (t = 5 ∧ B ≤ k)) w w' :=
  ⟨hb.size, fun i c t f hi ho => by
    by_cases hB : B ≤ i
    · exact h i _ ho (fun e => hi (.inl (Option.some.inj e))) (fun c' fz e => hi (.inr ⟨by cases e; rfl, hB⟩))
    · exact (hb.block i (by omega)).trans ho⟩
theorem keepsOthers_others {b : Nat} {w w' : World} (h : Lib.OthersKept 5 (some b) w w') (hs : w.heap.size ≤ w'.heap.size) (hb : ∃ c t f, w.heap[b]? = some (.cells c t f)) : KeepsOthers w w' :=
  ⟨hs, fun k o ho hn => h k o ho (fun e => by
    obtain ⟨c, t, f, hc⟩ := hb
    cases e
    rw [hc] at ho
    cases ho
    exact absurd hn (by simp [Obj.isCells])) (fun c fz e => by subst e; exact absurd hn (by simp [Obj.isCells]))⟩
theorem BldAt.cells {b B : Nat} {l : List UInt8} {W : World} (h : BldAt b B l W) : ∃ c t f, W.heap[b]? = some (.cells c t f) := by
  rcases h with h | h <;> (obtain ⟨_, v, hb, _⟩ := h; exact ⟨_, _, _, hb⟩)
theorem BldAt.below {b B : Nat} {l : List UInt8} {W W' : World} (h : BldAt b B l W) (hb : Below W.heap.size W W') : BldAt b B l W' := by
  have key : ∀ p, Lib.BuilderAtF 138 5 B b p (Lib.byteCells l) W → Lib.BuilderAtF 138 5 B b p (Lib.byteCells l) W' := fun p h => by
    obtain ⟨hB, v, hb2, hown, hne⟩ := h
    exact ⟨hB, v, (hb.block b (Array.getElem?_eq_some_iff.1 hb2).1).trans hb2, hown.kept (grown_of_below hb none) (by cases v.ownBlock with | none => exact .inl rfl | some g => exact .inr (fun e => by cases e)), hne⟩
  exact h.elim (fun h => .inl (key _ h)) (fun h => .inr (key _ h))

theorem heap_past' (W : World) (o : Obj) {k : Nat} (h : k < W.heap.size) : (W.alloc o).heap[k]? = W.heap[k]? := ((Below.refl W.heap.size W).alloc (Nat.le_refl _) o).block k h
theorem heap_at' (W : World) (o : Obj) {k : Nat} (h : k = W.heap.size) : (W.alloc o).heap[k]? = some o := h ▸ World.alloc_heap_new W o

set_option maxRecDepth 100000 in
set_option maxHeartbeats 4000000 in
theorem text_pos (neg : Bool) (N : Nat) (hN0 : N ≠ 0) (v : Value) (w : World) (hv : NumV w v N) (lN : (Nm.grp 10000 N).length ≤ 10000) (ht : Tab w) :
    Calls Tryz.prog 89 #[.agg #[.bool neg, v]] w fun e w' => e = .returned (if N < Nm.lim then .tuple #[.string (Nm.Tx (Nm.sg neg N)), .int .i64 0] else .tuple #[.string ⟨#[]⟩, .int .i64 30]) ∧ Below w.heap.size w w' := by
  obtain ⟨A, c, rfl, h1, h2, h3, h4⟩ := hv
  have hout := out_all N hN0
  have hinr := Nm.inR_grp (b := 10000) (by omega) N
  have hlen0 : ¬ (((Nm.grp 10000 N).length : Int) = 0) := by
    intro h
    have := (Nm.grp_len_iff N 0).2 (by simpa using hN0)
    omega
  generalize Nm.grp 10000 N = l at *
  have HSP := Lib.hid (fun W => backward_any A l.length c W)
  refine wideC' (n := 10) ?_
  refine callsIn_of_wp_marks Tryz.func89 rfl trivial ?_ rfl
  simp only [Tryz.ntmps89, List.size_toArray, List.length_cons, List.length_nil, Nat.reduceAdd, Nat.reduceSub, Array.replicate_succ, Array.replicate_zero, List.push_toArray, List.append_toArray, List.nil_append, List.cons_append]
  gi_wp2_with (refine ⟨trivial, ?_⟩; gi_at_call 114; refine (wideC (HSP.out _)).mono ?_; rintro e w1 ⟨rfl, rfl⟩)
  obtain ⟨W0, hW0⟩ : ∃ W0, (((w.alloc (.cells #[.bool neg, .slice A l.length c] 114)).alloc (.cells #[.pointer none, .slice none 0 0] 138)).alloc (.cells #[.slice A l.length c] 112)) = W0 := ⟨_, rfl⟩
  rw [hW0]
  have hsz : W0.heap.size = w.heap.size + 3 := by rw [← hW0]; simp
  have hB0 : Below w.heap.size w W0 := by
    rw [← hW0]
    exact (((Below.refl _ w).alloc (Nat.le_refl _) _).alloc (by simp) _).alloc (by simp; omega) _
  have y1 : W0.heap[w.heap.size]? = some (.cells #[.bool neg, .slice A l.length c] 114 (0, 0)) := by
    rw [← hW0, heap_past' _ _ (by simp; omega), heap_past' _ _ (by simp), heap_at' _ _ rfl]
  have y2 : BldAt (w.heap.size + 1) w.heap.size [] W0 := by
    refine .inl ⟨by omega, .slice none 0 0, ?_, World.ownsRowF_nil _ _ _ _, by simp [Value.ownBlock]⟩
    rw [← hW0, heap_past' _ _ (by simp), heap_at' _ _ (by simp)]
  have y3 : Boxed W0 (w.heap.size + 1 + 1) 112 (.slice A l.length c) := by
    rw [← hW0]
    show _ = _
    rw [heap_at' _ _ (by simp)]
  have hlt : ∀ ad, A = some ad → l ≠ [] → ad.block < w.heap.size := fun ad had hne => by
    rcases h1 with h | ⟨b', h1, h2⟩
    · exact absurd h hne
    · rw [had] at h1; cases h1; exact h2.1
  clear hW0 HSP
  have HTAB := Lib.hid ht
  have HIN := Lib.hid hinr
  clear ht hinr
  refine wpIn_rangeFunc_ownH rfl (by omega) (gf := 146) (lb := #[.pointer (some ⟨w.heap.size + 1 + 1, 0, none⟩)]) rfl trivial (enters_of Tryz.func146 (by kernel_rfl) rfl)
    (backward1_stops (fun k t => k = w.heap.size + 1 ∨ (t = 5 ∧ w.heap.size ≤ k)) 9 (by omega) A c l (by omega) (w.heap.size + 1 + 1) W0 y3 (h1.below hB0) (by rintro (h | ⟨h, _⟩); omega; exact absurd h (by decide))
      (fun ad had hne => by have := hlt ad had hne; intro t; omega))
    kpS_t kpS_b (Below.refl _ _) (fun _ => rfl)
    (fun pre W => BldAt (w.heap.size + 1) w.heap.size (outAt l pre) W ∧ W.heap[w.heap.size]? = some (.cells #[.bool neg, .slice A l.length c] 114 (0, 0)) ∧ Below w.heap.size w W)
    (fun _ _ _ => False)
    (OwnFrom.and (Own.from (bldAt_own _ _ _) _) (OwnFrom.and (Own.from (row_own _ (fun _ => #[.bool neg, .slice A l.length c]) _ _) _) (ownFrom_below (Nat.le_refl _) (by omega))))
    (fun _ _ _ _ _ hs _ _ => hs)
    ⟨y2, y1, hB0⟩
    (fun p a' W => a' = { tmps := #[.agg #[.bool neg, .slice A l.length c], .pointer (some ⟨w.heap.size, 0, none⟩), .string ⟨#[]⟩, .int .i64 0, .pointer (some ⟨w.heap.size + 1, 0, none⟩), .int .i64 (p.val : Nat), .int .i64 (gd l p.val), undef, undef, .pointer (some ⟨w.heap.size, 1, none⟩), .slice A l.length c, .int .i64 l.length, .bool false, .pointer (some ⟨w.heap.size, 1, none⟩), .slice A l.length c, .func (.func 146) #[] #[.pointer (some ⟨w.heap.size + 1 + 1, 0, none⟩)], .int .i64 (p.val : Nat), .int .i64 (gd l p.val), undef, undef, undef, undef, undef, undef, undef, undef, undef, undef, undef, undef, undef, undef, undef, undef, undef, undef, undef, undef, undef, undef, undef, undef, undef], defers := [] })
    (fun p a' => fun _ _ _ _ hs _ _ => hs)
    ?assign ?body ?done ?stop
  case assign =>
    rintro ll pre p W K ⟨x1, x2, hB⟩ hK
    unfold encB
    gi_wp2
    exact hK _ _ (KeepsFrom.refl _ _) (KpS.refl _ W) ⟨x1, x2, hB⟩ rfl
  case body =>
    rintro ll pre p a' W hl hr ⟨x1, x2, hB⟩ rfl hlen
    obtain ⟨q1, q2, q3, q4⟩ := pieceL_len l HIN.out p.val p.isLt
    have hol := outAt_len l HIN.out pre
    have hsn := outAt_snoc l pre p
    have hpc : pieceL l p.val = if p.val + 1 < l.length then Nm.pad4 (gd l p.val).toNat else Lib.decDigits (gd l p.val).toNat := rfl
    generalize (gd l p.val).toNat = d at *
    rw [q4]
    have hsB := hB.size
    have hbs : ∀ s' : List UInt8, s'.length ≤ 4 → (Lib.byteCells (outAt l pre)).length + s'.length ≤ 140737488355328 := fun s' h => by
      rw [Lib.byteCells_length]; omega
    have HX := Lib.hid (And.intro x1 (And.intro x2 (And.intro hB hbs)))
    have HQ := Lib.hid (And.intro q1 (And.intro hsn hpc))
    have n0 : w.heap.size < W.heap.size := (Array.getElem?_eq_some_iff.1 x2).1
    have m1 : W.cell? ⟨w.heap.size, 1, none⟩ = some (.slice A l.length c) := by simp [World.cell?, x2]
    have HI := Lib.hid (itoa_any d q2 W (HTAB.out.below hB))
    have hwl : IntKind.i64.wrap ((l.length : Int) - 1) = (l.length : Int) - 1 := IntWalk.i64_in _ (by omega)
    have HFIN := Lib.hid (show ∀ (w2 w3 : World) (s' : ByteArray), Below W.heap.size W w2 → s'.data.toList = pieceL l p.val → Lib.BuilderAtF 138 5 w.heap.size (w.heap.size + 1) (.pointer (some ⟨w.heap.size + 1, 0, none⟩)) (Lib.byteCells (outAt l pre) ++ Lib.strCells s') w3 → Below w.heap.size w2 w3 → Lib.OthersKept 5 (some (w.heap.size + 1)) w2 w3 →
        KeepsFrom W0.heap.size W w3 ∧ KpS (fun k t => k = w.heap.size + 1 ∨ (t = 5 ∧ w.heap.size ≤ k)) W w3 ∧ (BldAt (w.heap.size + 1) w.heap.size (outAt l (pre ++ [p])) w3 ∧ w3.heap[w.heap.size]? = some (.cells #[.bool neg, .slice A l.length c] 114 (0, 0)) ∧ Below w.heap.size w w3) from by
      intro w2 w3 s' h1 h2 h3 h4 h5
      have h6 := HX.out.1.below h1
      have h7 := (h1.block _ n0).trans HX.out.2.1
      refine ⟨((keepsOthers_below h1).trans (keepsOthers_others h5 h4.size h6.cells)).from _, (KpS.of_below h1).trans (kpS_others h5 h4), ?_, h5 _ _ h7 (by intro e; have := Option.some.inj e; omega) (by intro c' f' e; cases e), (hB.trans (h1.mono hsB)).trans h4⟩
      rw [HQ.out.2.1]
      unfold BldAt
      rw [Lib.byteCells_append, ← h2]
      exact .inr h3)
    clear x1 x2 hB hbs hsn hpc q1 q4 hol
    by_cases hpl : p.val + 1 < l.length
    · have hpz : ((p.val : Nat) : Int) < (l.length : Int) - 1 := by omega
      have hw4 : IntKind.i64.wrap (4 - ((dsB d).size : Int)) = ((4 - (Lib.decDigits d).length : Nat) : Int) := by
        rw [dsB_size]
        have := IntWalk.i64_in (4 - ((Lib.decDigits d).length : Int)) (by omega)
        rw [this]; omega
      have HZ := Lib.hid (fun W' => zeros_any (4 - (Lib.decDigits d).length) (by omega) W')
      have hpd := pad_str d
      have hcat : ¬ 9223372036854775807 < (zB (4 - (Lib.decDigits d).length)).size + (dsB d).size := by
        have e1 : (zB (4 - (Lib.decDigits d).length)).size = 4 - (Lib.decDigits d).length := by simp [zB, ByteArray.size]
        rw [e1, dsB_size]; omega
      have HWS := Lib.hid (fun (w2 w3 : World) (h1 : Below W.heap.size W w2) (h2 : Below w2.heap.size w2 w3) => writeString_any w.heap.size (w.heap.size + 1) (Lib.byteCells (outAt l pre)) (pB d) w3 ((HX.out.1.below h1).below h2) (HX.out.2.2.2 (Nm.pad4 d) (by have := HQ.out.1; rw [HQ.out.2.2, if_pos hpl] at this; exact this)) (Nat.le_trans hsB (Nat.le_trans h1.size h2.size)))
      gi_wp2_with (first | (refine ⟨trivial, ?_⟩; gi_at_call 69; refine (wideC HI.out).mono ?_; rintro e w2 ⟨rfl, hb2⟩; have m2 := cell_below hb2 m1) | (refine ⟨trivial, ?_⟩; gi_at_call 90; refine (wideC (HZ.out _)).mono ?_; rintro e w3 ⟨rfl, hb3⟩) | (refine ⟨trivial, ?_⟩; gi_at_call 115; refine (wideC (HWS.out _ _ hb2 hb3)).mono ?_; rintro e w4 ⟨rfl, hb4, hb5, hb6⟩))
      exact HFIN.out _ _ (pB d) (hb2.trans (hb3.mono hb2.size)) (by rw [HQ.out.2.2, if_pos hpl]; rfl) hb4 hb5 hb6
    · have hpz : ¬ ((p.val : Nat) : Int) < (l.length : Int) - 1 := by omega
      have HWS := Lib.hid (fun (w2 : World) (h1 : Below W.heap.size W w2) => writeString_any w.heap.size (w.heap.size + 1) (Lib.byteCells (outAt l pre)) (dsB d) w2 (HX.out.1.below h1) (HX.out.2.2.2 (Lib.decDigits d) q3) (Nat.le_trans hsB h1.size))
      gi_wp2_with (first | (refine ⟨trivial, ?_⟩; gi_at_call 69; refine (wideC HI.out).mono ?_; rintro e w2 ⟨rfl, hb2⟩; have m2 := cell_below hb2 m1) | (refine ⟨trivial, ?_⟩; gi_at_call 115; refine (wideC (HWS.out _ hb2)).mono ?_; rintro e w4 ⟨rfl, hb4, hb5, hb6⟩))
      exact HFIN.out _ _ (dsB d) hb2 (by rw [HQ.out.2.2, if_neg hpl]; rfl) hb4 hb5 hb6
  case done =>
    rintro D ys W hD rfl ⟨x1, x2, hB⟩ hK
    rw [hout] at x1
    have hsB := hB.size
    have HST := Lib.hid (Tryz.Builder_String_k w.heap.size (w.heap.size + 1) (Lib.decDigits N) W x1 (Nm.dec_ne N))
    have m1 : W.cell? ⟨w.heap.size, 0, none⟩ = some (.bool neg) := by simp [World.cell?, x2]
    have n0 : w.heap.size < W.heap.size := (Array.getElem?_eq_some_iff.1 x2).1
    have hlen := Nm.dec_len_le N
    rw [← dsB_size] at hlen
    have HK2 := Lib.hid (show ∀ w2, Lib.OthersKept 5 (some (w.heap.size + 1)) W w2 → w2.cell? ⟨w.heap.size, 0, none⟩ = some (.bool neg) from fun w2 h => by
      have := h _ _ x2 (by intro e; have := Option.some.inj e; omega) (by intro c' f' e; cases e)
      simp [World.cell?, this])
    have HDD := Lib.hid (show ∀ w2, Lib.OthersKept 5 (some (w.heap.size + 1)) W w2 → w2.heap[D]? = some (.deferred (some [])) from fun w2 h => h _ _ hK (by intro e; have := Option.some.inj e; omega) (by intro c' f' e; cases e))
    have HX := Lib.hid (And.intro x1 (And.intro x2 (And.intro hB hD)))
    clear x1 x2 hB hK
    have hds : (⟨(Lib.decDigits N).toArray⟩ : ByteArray) = dsB N := rfl
    rw [hds] at HST
    have HW0 := Lib.hid (And.intro hsz hsB)
    by_cases hN : N < Nm.lim
    · have h200 : ¬ (200 : Int) < ((dsB N).size : Int) := by have := hlen.2 hN; omega
      have hcat2 : ¬ 9223372036854775807 < 1 + (dsB N).size := by omega
      have HT : (⟨#[45]⟩ : ByteArray) ++ dsB N = Nm.Tx (Nm.sg true N) := by
        apply Nm.ba_ext
        rw [Nm.tx_list, Nm.itoa_sg_neg hN0, ByteArray.data_append]
        simp [dsB]
      have HT2 : dsB N = Nm.Tx (Nm.sg false N) := by
        apply Nm.ba_ext
        rw [Nm.tx_list, Nm.itoa_sg_pos]
        rfl
      have HTT := Lib.hid (And.intro HT HT2)
      clear hlen HT HT2
      cases neg
      · gi_wp2_with (refine ⟨trivial, ?_⟩; gi_at_call 116; refine (wideC HST.out).mono ?_; rintro e w2 ⟨rfl, hb1, hb2, hk2⟩; have m2 := HK2.out _ hk2)
        have hK3 := HDD.out _ hk2
        refine ⟨by simp, .inl ⟨_, _, rfl, run_takeDeferred hK3, ?_⟩⟩
        refine ⟨.tuple #[.string (dsB N), .int .i64 0], ?_, by rw [HTT.out.2], (HX.out.2.2.1.trans hb2).trans (belowK_b (w := w) (Nat.le_refl _) _ D _ _ (by have := HW0.out.1; have := HX.out.2.2.2; omega) hK3 rfl rfl)⟩
        simp [results, Tryz.results89, go_sem]
      · gi_wp2_with (refine ⟨trivial, ?_⟩; gi_at_call 116; refine (wideC HST.out).mono ?_; rintro e w2 ⟨rfl, hb1, hb2, hk2⟩; have m2 := HK2.out _ hk2)
        have hK3 := HDD.out _ hk2
        refine ⟨by simp, .inl ⟨_, _, rfl, run_takeDeferred hK3, ?_⟩⟩
        refine ⟨.tuple #[.string (⟨#[45]⟩ ++ dsB N), .int .i64 0], ?_, by rw [HTT.out.1], (HX.out.2.2.1.trans hb2).trans (belowK_b (w := w) (Nat.le_refl _) _ D _ _ (by have := HW0.out.1; have := HX.out.2.2.2; omega) hK3 rfl rfl)⟩
        simp [results, Tryz.results89, go_sem]
    · have h200 : (200 : Int) < ((dsB N).size : Int) := by
        have : ¬ (dsB N).size ≤ 200 := fun h => hN (hlen.1 h)
        omega
      clear hlen
      gi_wp2_with (refine ⟨trivial, ?_⟩; gi_at_call 116; refine (wideC HST.out).mono ?_; rintro e w2 ⟨rfl, hb1, hb2, hk2⟩; have m2 := HK2.out _ hk2)
      have hK3 := HDD.out _ hk2
      refine ⟨by simp, .inl ⟨_, _, rfl, run_takeDeferred hK3, ?_⟩⟩
      refine ⟨.tuple #[.string ⟨#[]⟩, .int .i64 30], ?_, rfl, (HX.out.2.2.1.trans hb2).trans (belowK_b (w := w) (Nat.le_refl _) _ D _ _ (by have := HW0.out.1; have := HX.out.2.2.2; omega) hK3 rfl rfl)⟩
      simp [results, Tryz.results89, go_sem]
  case stop =>
    rintro D cc pre W hD _ h _
    exact h.elim
end Go.Proofs.YtbenflnpnohcjaaGreatDoor
