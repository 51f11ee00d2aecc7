/- Package rational: do, quotient, reduced, Make, Of. -/
import Derived.Test.YtbenflnpnohcjaaGreatDoorN16
namespace Go.Proofs.YtbenflnpnohcjaaGreatDoor
open Go.RowKit Go.Shelf

/-- What a step of a calculation leaves: the mark in block B is b; all else stands. -/
structure Wk (B : Nat) (b : Bool) (W W' : World) : Prop where
  x : Boxed W' B 108 (.bool b)
  blk : ∀ k, k < W.heap.size → k ≠ B → W'.heap[k]? = W.heap[k]?
  bel : ∀ N, N ≤ B → N ≤ W.heap.size → Below N W W'
  siz : W.heap.size ≤ W'.heap.size
  lt : B < W.heap.size
theorem Wk.refl {B : Nat} {b : Bool} {W : World} (h : Boxed W B 108 (.bool b)) : Wk B b W W := ⟨h, fun _ _ _ => rfl, fun N _ _ => Below.refl N W, Nat.le_refl _, h.lt⟩
theorem Wk.below {B : Nat} {b : Bool} {W W' W'' : World} (h : Wk B b W W') (hb : Below W'.heap.size W' W'') : Wk B b W W'' :=
  ⟨(hb.block B h.x.lt).trans h.x, fun k hk hne => (hb.block k (Nat.lt_of_lt_of_le hk h.siz)).trans (h.blk k hk hne), fun N h1 h2 => (h.bel N h1 h2).trans (hb.mono (Nat.le_trans h2 h.siz)), Nat.le_trans h.siz hb.size, h.lt⟩
theorem Wk.set {B : Nat} {b : Bool} {W W' : World} (h : Wk B b W W') (b' : Bool) : Wk B b' W (W'.setCell ⟨B, 0, none⟩ (.bool b')) :=
  ⟨h.x.set _, fun k hk hne => (heap_set_other _ _ _ _ hne).trans (h.blk k hk hne), fun N h1 h2 => (h.bel N h1 h2).setCell (p := ⟨B, 0, none⟩) h1 _, by simp; exact h.siz, h.lt⟩
theorem Wk.trans {B : Nat} {b b' : Bool} {W W' W'' : World} (h : Wk B b W W') (k : Wk B b' W' W'') : Wk B b' W W'' :=
  ⟨k.x, fun i hi hne => (k.blk i (Nat.lt_of_lt_of_le hi h.siz) hne).trans (h.blk i hi hne), fun N h1 h2 => (h.bel N h1 h2).trans (k.bel N h1 (Nat.le_trans h2 h.siz)), Nat.le_trans h.siz k.siz, h.lt⟩
theorem Wk.setNew {B : Nat} {b : Bool} {W W' : World} (h : Wk B b W W') (a : Addr) (ha : W.heap.size ≤ a.block) (v : Value) : Wk B b W (W'.setCell a v) :=
  ⟨(sc_other _ _ _ _ (by have := h.lt; omega)).trans h.x, fun k hk hne => (sc_other _ _ _ _ (by omega)).trans (h.blk k hk hne), fun N h1 h2 => (h.bel N h1 h2).setCell (p := a) (Nat.le_trans h2 ha) _, by simp; exact h.siz, h.lt⟩
theorem Tab.wk {B : Nat} {b : Bool} {w W W' : World} (ht : Tab w) (hw : Below w.heap.size w W) (hB : w.heap.size ≤ B) (h : Wk B b W W') : Tab W' := ht.below (hw.trans (h.bel _ hB hw.size))

/-- An operation with two integers, which fails or not. -/
def OpAt (f : Nat) (a b r : ByteArray) (W : World) : Prop := Calls Tryz.prog f #[.string a, .string b] W fun e w' => e = .returned (.tuple #[.string r, .int .i64 0]) ∧ Below W.heap.size W w'

set_option maxRecDepth 100000 in
set_option maxHeartbeats 1000000 in
theorem do_any (f : Nat) (eg : ∀ args w, (callFunc f args).run Tryz.prog w = .ok (.enter f args) w) (a b r : ByteArray) (B : Nat) (W0 w : World) (h : Wk B false W0 w) (hop : OpAt f a b r w) :
    Calls Tryz.prog 84 #[.pointer (some ⟨B, 0, none⟩), .func (.func f) #[] #[], .string a, .string b] w fun e w' => e = .returned (.string r) ∧ Wk B false W0 w' := by
  have c1 := h.x.cell
  have f1 := h.x.frozen
  have HOP := Lib.hid hop
  have HK := Lib.hid h
  clear hop h
  go_enter Tryz.func84, Tryz.ntmps84
  go_wp2_with (first | (go_at_fn f; refine HOP.out.mono ?_; rintro e w1 ⟨rfl, hb1⟩; have c2 := cell_below hb1 c1; have f2 := (hb1.frozen (World.block_lt_of_cell? _ _ c1)).trans f1))
  go_ret
  exact ⟨rfl, (HK.out.below hb1).set false⟩

theorem quot1_any (a b : Int) (ha : a.natAbs < Nm.lim) (hb : b.natAbs < Nm.lim) (hb0 : b ≠ 0) (hn : ¬ (a < 0 ∧ a.natAbs % b.natAbs ≠ 0)) (w : World) (ht : Tab w) : OpAt 142 (Nm.Tx a) (Nm.Tx b) (Nm.Tx (a / b)) w := by
  have H := Lib.hid (div_any a b ha hb hb0 hn w ht)
  clear ht hn
  unfold OpAt
  go_enter Tryz.func142, Tryz.ntmps142
  go_wp2_with (go_at_call 71; refine H.out.mono ?_; rintro e w1 ⟨rfl, hb1⟩)
  go_ret2
  exact ⟨rfl, hb1⟩

set_option maxRecDepth 100000 in
set_option maxHeartbeats 1000000 in
theorem quot_any (a b : Int) (ha : a.natAbs < Nm.lim) (hb : b.natAbs < Nm.lim) (hb0 : b ≠ 0) (hn : ¬ (a < 0 ∧ a.natAbs % b.natAbs ≠ 0)) (B : Nat) (W0 w : World) (h : Wk B false W0 w) (ht : Tab w) :
    Calls Tryz.prog 111 #[.pointer (some ⟨B, 0, none⟩), .string (Nm.Tx a), .string (Nm.Tx b)] w fun e w' => e = .returned (.string (Nm.Tx (a / b))) ∧ Wk B false W0 w' := by
  have H := Lib.hid (do_any 142 (enters_of Tryz.func142 (by kernel_rfl) rfl) _ _ _ B W0 w h (quot1_any a b ha hb hb0 hn w ht))
  clear h ht hn
  go_enter Tryz.func111, Tryz.ntmps111
  go_wp2_with (go_at_call 84; refine H.out.mono ?_; rintro e w1 ⟨rfl, hb1⟩)
  go_ret
  exact ⟨rfl, hb1⟩

theorem results_ct {P : Program} {fn : Func} {p u : Tmp} {ty : TypeId} (h : fn.results = #[.cell p ty, .tmp u]) (tmps : Array Value) (w : World) (g : Nat) (t : TypeId) (cs : Array Value) (fr : Nat × Nat) (d : TypeDesc)
    (hp : tmps.getD p undef = .pointer (some ⟨g, 0, none⟩)) (hg : w.heap[g]? = some (.cells cs t fr))
    (hu : P.underlying ty = some d) (hd : (match d with | .struct _ | .array _ _ => true | _ => false) = true) (hi : (P.info? ty).map (·.size) = some cs.size) :
    (results fn tmps).run P w = .ok (.tuple #[.agg cs, tmps.getD u undef]) w := by
  have hp' : tmps[p]?.getD undef = .pointer (some ⟨g, 0, none⟩) := by simpa using hp
  simp [results, h, hp', asAddr, run_loadVar_row w g t ty cs fr d hg hu hd hi]

theorem gcd_facts (n d : Int) (_hn : n.natAbs < Nm.lim) (hd : d.natAbs < Nm.lim) (hd0 : 0 < d) : (Int.gcd n d : Int).natAbs < Nm.lim ∧ (Int.gcd n d : Int) ≠ 0 ∧ ¬ (n < 0 ∧ n.natAbs % (Int.gcd n d : Int).natAbs ≠ 0) := by
  have h1 : Int.gcd n d = Nat.gcd n.natAbs d.natAbs := rfl
  have h2 : Nat.gcd n.natAbs d.natAbs ≤ d.natAbs := Nat.gcd_le_right _ (by omega)
  have h3 : 0 < Nat.gcd n.natAbs d.natAbs := Nat.gcd_pos_of_pos_right _ (by omega)
  have h4 : n.natAbs % Nat.gcd n.natAbs d.natAbs = 0 := Nat.mod_eq_zero_of_dvd (Nat.gcd_dvd_left _ _)
  rw [h1, Int.natAbs_natCast]
  exact ⟨by omega, by omega, fun h => h.2 h4⟩

set_option maxRecDepth 100000 in
set_option maxHeartbeats 2000000 in
theorem reduced_any (n d : Int) (hn : n.natAbs < Nm.lim) (hd : d.natAbs < Nm.lim) (hd0 : 0 < d) (B : Nat) (W0 w : World) (h : Wk B false W0 w) (w0 : World) (ht : Tab w0) (hw0 : Below w0.heap.size w0 W0) (hB : w0.heap.size ≤ B) :
    Calls Tryz.prog 86 #[.pointer (some ⟨B, 0, none⟩), .string (Nm.Tx n), .string (Nm.Tx d)] w fun e w' => e = .returned (.tuple #[.agg #[.string (Nm.Tx (n / Int.gcd n d)), .string (Nm.Tx (d / Int.gcd n d))], .int .i64 0]) ∧ Wk B false W0 w' := by
  obtain ⟨g1, g2, g3⟩ := gcd_facts n d hn hd hd0
  obtain ⟨W1, hW1⟩ : ∃ W1, w.alloc (.cells #[.string ⟨#[]⟩, .string ⟨#[]⟩] 44) = W1 := ⟨_, rfl⟩
  have hk1 : Wk B false W0 W1 := by rw [← hW1]; exact h.below ((Below.refl _ w).alloc (Nat.le_refl _) _)
  have hR : W1.heap[w.heap.size]? = some (.cells #[.string ⟨#[]⟩, .string ⟨#[]⟩] 44 (0, 0)) := by rw [← hW1]; exact heap_at' _ _ rfl
  have hw1 : Below w0.heap.size w0 W1 := hw0.trans (hk1.bel _ hB hw0.size)
  have HG := Lib.hid (fun w' (h : Wk B false W1 w') => do_any 93 (enters_of Tryz.func93 (by kernel_rfl) rfl) _ _ _ B W1 w' h (gcd_any n d hn hd w' (ht.wk hw1 hB h)))
  have HC := Lib.hid (fun w' => compare72 d 0 hd (by simp; exact Nat.lt_of_le_of_lt (Nat.zero_le _) hn) w')
  generalize (Int.gcd n d : Int) = g at *
  have HQ1 := Lib.hid (fun w' (h : Wk B false W1 w') => quot_any n g hn g1 g2 g3 B W1 w' h (ht.wk hw1 hB h))
  have HQ2 := Lib.hid (fun w' (h : Wk B false W1 w') => quot_any d g hd g1 g2 (fun h => by omega) B W1 w' h (ht.wk hw1 hB h))
  have hs : Nm.sgn d 0 = 1 := by
    unfold Nm.sgn
    rw [if_neg (by omega), if_pos hd0]
  rw [hs] at HC
  have hz : Nm.Tx 0 = ⟨#[48]⟩ := Nm.tx_zero false
  rw [hz] at HC
  have hdz : ((Nm.Tx d).toList == [48]) = false := by
    rw [ba_toList, beq_eq_false_iff_ne]
    intro e
    have : Nm.Tx d = Nm.Tx 0 := by rw [hz]; exact Nm.ba_ext e
    have := Nm.tx_inj this
    omega
  have c1 := hk1.x.cell
  have hlt := h.x.lt
  have HK1 := Lib.hid (And.intro hk1 (Wk.refl hk1.x))
  have HSZ := Lib.hid h.siz
  have HRR := Lib.hid (show ∀ w5, Wk B false W1 w5 → w5.heap[w.heap.size]? = some (.cells #[.string ⟨#[]⟩, .string ⟨#[]⟩] 44 (0, 0)) ∧ w5.cell? ⟨w.heap.size, 0, none⟩ = some (.string ⟨#[]⟩) ∧ w5.cell? ⟨w.heap.size, 1, none⟩ = some (.string ⟨#[]⟩) ∧ w5.frozen? ⟨w.heap.size, 0, none⟩ = false ∧ w5.frozen? ⟨w.heap.size, 1, none⟩ = false ∧ w.heap.size < w5.heap.size from fun w5 hk => by
    have hr := (hk.blk w.heap.size (Array.getElem?_eq_some_iff.1 hR).1 (by omega)).trans hR
    exact ⟨hr, by simp [World.cell?, hr], by simp [World.cell?, hr], by simp [World.frozen?, hr], by simp [World.frozen?, hr], (Array.getElem?_eq_some_iff.1 hr).1⟩)
  clear h ht hw0 hw1 hB hn hd hd0 g1 g2 g3 hs hz hk1 hR
  go_enter Tryz.func86, Tryz.ntmps86

  go_wp2_with (first | (go_at_call 72; refine (HC.out _).mono ?_; rintro e w2 ⟨rfl, hb2⟩; have hk := HK1.out.2.below hb2; have c2 := hk.x.cell) | (go_at_call 84; refine (HG.out _ hk).mono ?_; rintro e w3 ⟨rfl, hk⟩) | (go_at_call 111; (with_reducible refine (HQ1.out _ hk).mono ?_); rintro e w4 ⟨rfl, hk⟩) | (go_at_call 111; (with_reducible refine (HQ2.out _ hk).mono ?_); rintro e w5 ⟨rfl, hk⟩; have c5 := hk.x.cell; have n5 := hk.x.lt; obtain ⟨_, r1, r2, r3, r4, r5⟩ := HRR.out _ hk))
  obtain ⟨r0, _⟩ := HRR.out _ hk
  have hw := (((HK1.out.1.trans hk).setNew ⟨w.heap.size, 0, none⟩ HSZ.out (.string (Nm.Tx (n / g)))).setNew ⟨w.heap.size, 1, none⟩ HSZ.out (.string (Nm.Tx (d / g)))).below ((Below.refl _ _).alloc (Nat.le_refl _) (.cells #[.string (Nm.Tx (n / g)), .string (Nm.Tx (d / g))] 44))
  have t0 := sc_at w5 ⟨w.heap.size, 0, none⟩ (.string (Nm.Tx (n / g))) rfl r0
  have t1 := sc_at _ ⟨w.heap.size, 1, none⟩ (.string (Nm.Tx (d / g))) rfl t0
  have t2 := (heap_past' _ (.cells #[.string (Nm.Tx (n / g)), .string (Nm.Tx (d / g))] 44) (Array.getElem?_eq_some_iff.1 t1).1).trans t1
  exact bodyPost_ret (results_ct rfl _ _ _ _ _ _ _ rfl t2 Tryz.underlying44 rfl (by kernel_rfl)) rfl ⟨rfl, hw⟩

set_option maxRecDepth 100000 in
set_option maxHeartbeats 2000000 in
theorem make_any (n d : Int) (hn : n.natAbs < Nm.lim) (hd : d.natAbs < Nm.lim) (hd0 : 0 < d) (w : World) (ht : Tab w) :
    Calls Tryz.prog 79 #[.string (Nm.Tx n), .string (Nm.Tx d)] w fun e w' => e = .returned (.tuple #[.agg #[.string (Nm.Tx (n / Int.gcd n d)), .string (Nm.Tx (d / Int.gcd n d))], .int .i64 0]) ∧ Below w.heap.size w w' := by
  have HV1 := Lib.hid (fun W => valid92 (Nm.Tx n) (by have := tx_ok n hn; omega) true ⟨fun _ => ⟨n, rfl, hn⟩, fun _ => rfl⟩ W)
  have HV2 := Lib.hid (fun W => valid92 (Nm.Tx d) (by have := tx_ok d hd; omega) true ⟨fun _ => ⟨d, rfl, hd⟩, fun _ => rfl⟩ W)
  have HR := Lib.hid (fun B W0 W (h : Wk B false W0 W) (h1 : Below w.heap.size w W0) (h2 : w.heap.size ≤ B) => reduced_any n d hn hd hd0 B W0 W h w ht h1 h2)
  generalize hta : Nm.Tx n = tn at *
  generalize htb : Nm.Tx d = td at *
  clear hta htb ht hn hd hd0
  have HCH := Lib.hid (show ∀ w1 w2, Below (w.alloc (.cells #[.string ⟨#[]⟩, .string ⟨#[]⟩] 44)).heap.size (w.alloc (.cells #[.string ⟨#[]⟩, .string ⟨#[]⟩] 44)) w1 → Below w1.heap.size w1 w2 →
      Wk w2.heap.size false (w2.alloc (.cells #[.bool false] 108)) (w2.alloc (.cells #[.bool false] 108)) ∧ Below w.heap.size w (w2.alloc (.cells #[.bool false] 108)) ∧ w.heap.size < w2.heap.size ∧ (w2.alloc (.cells #[.bool false] 108)).heap[w.heap.size]? = some (.cells #[.string ⟨#[]⟩, .string ⟨#[]⟩] 44 (0, 0)) from by
    intro w1 w2 h1 h2
    have e1 : (w.alloc (.cells #[.string ⟨#[]⟩, .string ⟨#[]⟩] 44)).heap[w.heap.size]? = some (.cells #[.string ⟨#[]⟩, .string ⟨#[]⟩] 44 (0, 0)) := heap_at' _ _ rfl
    have hB0 : Below w.heap.size w (w.alloc (.cells #[.string ⟨#[]⟩, .string ⟨#[]⟩] 44)) := (Below.refl _ w).alloc (Nat.le_refl _) _
    have hs : (w.alloc (.cells #[.string ⟨#[]⟩, .string ⟨#[]⟩] 44)).heap.size = w.heap.size + 1 := by simp
    generalize w.alloc (.cells #[.string ⟨#[]⟩, .string ⟨#[]⟩] 44) = W0 at *
    have g1 := h1.size
    have g2 := h2.size
    have h12 : Below W0.heap.size W0 w2 := h1.trans (h2.mono g1)
    have h13 : Below W0.heap.size W0 (w2.alloc (.cells #[.bool false] 108)) := h12.alloc h12.size _
    exact ⟨Wk.refl (Boxed.new _ _ _), hB0.trans (h13.mono (by omega)), by omega, (h13.block _ (by omega)).trans e1⟩)
  have HRR := Lib.hid (show ∀ W w3 B, Wk B false W w3 → w.heap.size < B → W.heap[w.heap.size]? = some (.cells #[.string ⟨#[]⟩, .string ⟨#[]⟩] 44 (0, 0)) → w3.heap[w.heap.size]? = some (.cells #[.string ⟨#[]⟩, .string ⟨#[]⟩] 44 (0, 0)) ∧ w3.cell? ⟨w.heap.size, 0, none⟩ = some (.string ⟨#[]⟩) ∧ w3.cell? ⟨w.heap.size, 1, none⟩ = some (.string ⟨#[]⟩) ∧ w3.frozen? ⟨w.heap.size, 0, none⟩ = false ∧ w3.frozen? ⟨w.heap.size, 1, none⟩ = false from fun W w3 B hk hB hR => by
    have hr := (hk.blk w.heap.size (Array.getElem?_eq_some_iff.1 hR).1 (by omega)).trans hR
    exact ⟨hr, by simp [World.cell?, hr], by simp [World.cell?, hr], by simp [World.frozen?, hr], by simp [World.frozen?, hr]⟩)
  go_enter Tryz.func79, Tryz.ntmps79
  go_wp2_with (first | (go_at_call 92; with_reducible refine (HV1.out _).mono ?_; rintro e w1 ⟨rfl, hb1⟩) | (go_at_call 92; with_reducible refine (HV2.out _).mono ?_; rintro e w2 ⟨rfl, hb2⟩) | (go_at_call 86; obtain ⟨j1, j2, j3, j4⟩ := HCH.out _ _ hb1 hb2; refine (HR.out _ _ _ j1 j2 (Nat.le_of_lt j3)).mono ?_; rintro e w3 ⟨rfl, hk⟩; have HJ := Lib.hid (And.intro j2 (And.intro j3 j4)); clear j1 j2 j3 j4; obtain ⟨_, r1, r2, r3, r4⟩ := HRR.out _ _ _ hk HJ.out.2.1 HJ.out.2.2))
  obtain ⟨r0, _⟩ := HRR.out _ _ _ hk HJ.out.2.1 HJ.out.2.2
  have t0 := sc_at w3 ⟨w.heap.size, 0, none⟩ (.string (Nm.Tx (n / Int.gcd n d))) rfl r0
  have t1 := sc_at _ ⟨w.heap.size, 1, none⟩ (.string (Nm.Tx (d / Int.gcd n d))) rfl t0
  have hj2 := HJ.out.1
  exact bodyPost_ret (results_ct rfl _ _ _ _ _ _ _ rfl t1 Tryz.underlying44 rfl (by kernel_rfl)) rfl ⟨rfl, ((hj2.trans (hk.bel _ (Nat.le_of_lt HJ.out.2.1) hj2.size)).setCell (p := ⟨w.heap.size, 0, none⟩) (Nat.le_refl _) _).setCell (p := ⟨w.heap.size, 1, none⟩) (Nat.le_refl _) _⟩

set_option maxRecDepth 100000 in
set_option maxHeartbeats 2000000 in
theorem of_any (n d : Int) (hn : -9223372036854775808 ≤ n ∧ n ≤ 9223372036854775807) (hd : d ≤ 9223372036854775807) (hd0 : 0 < d) (w : World) (ht : Tab w) :
    Calls Tryz.prog 60 #[.int .i64 n, .int .i64 d] w fun e w' => e = .returned (.tuple #[.agg #[.string (Nm.Tx (n / Int.gcd n d)), .string (Nm.Tx (d / Int.gcd n d))], .int .i64 0]) ∧ Below w.heap.size w w' := by
  have hlim : 9223372036854775808 < Nm.lim := by unfold Nm.lim; decide
  have HF1 := Lib.hid (fun W (h : Below w.heap.size w W) => fromInt_any n hn.1 hn.2 W (ht.below h))
  have HF2 := Lib.hid (fun W (h : Below w.heap.size w W) => fromInt_any d (by omega) hd W (ht.below h))
  have HM := Lib.hid (fun W (h : Below w.heap.size w W) => make_any n d (by omega) (by omega) hd0 W (ht.below h))
  clear ht hn hd hd0 hlim
  have hB0 : Below w.heap.size w (w.alloc (.cells #[.string ⟨#[]⟩, .string ⟨#[]⟩] 44)) := (Below.refl _ w).alloc (Nat.le_refl _) _
  have HB0 := Lib.hid hB0
  have HRR := Lib.hid (show ∀ w1 w2 w3, Below (w.alloc (.cells #[.string ⟨#[]⟩, .string ⟨#[]⟩] 44)).heap.size (w.alloc (.cells #[.string ⟨#[]⟩, .string ⟨#[]⟩] 44)) w1 → Below w1.heap.size w1 w2 → Below w2.heap.size w2 w3 → w3.heap[w.heap.size]? = some (.cells #[.string ⟨#[]⟩, .string ⟨#[]⟩] 44 (0, 0)) ∧ w3.cell? ⟨w.heap.size, 0, none⟩ = some (.string ⟨#[]⟩) ∧ w3.cell? ⟨w.heap.size, 1, none⟩ = some (.string ⟨#[]⟩) ∧ w3.frozen? ⟨w.heap.size, 0, none⟩ = false ∧ w3.frozen? ⟨w.heap.size, 1, none⟩ = false ∧ Below w.heap.size w w3 from fun w1 w2 w3 h1 h2 h3 => by
    have e1 : (w.alloc (.cells #[.string ⟨#[]⟩, .string ⟨#[]⟩] 44)).heap[w.heap.size]? = some (.cells #[.string ⟨#[]⟩, .string ⟨#[]⟩] 44 (0, 0)) := heap_at' _ _ rfl
    have h13 := (h1.trans (h2.mono h1.size)).trans (h3.mono (Nat.le_trans h1.size h2.size))
    have hr := (h13.block w.heap.size (by simp)).trans e1
    exact ⟨hr, by simp [World.cell?, hr], by simp [World.cell?, hr], by simp [World.frozen?, hr], by simp [World.frozen?, hr], HB0.out.trans (h13.mono HB0.out.size)⟩)
  clear hB0
  generalize hn1 : Nm.Tx n = tn at *
  generalize hd1 : Nm.Tx d = td at *
  clear hn1 hd1
  go_enter Tryz.func60, Tryz.ntmps60
  go_wp2_with (first | (go_at_call 42; (with_reducible refine (HF1.out _ HB0.out).mono ?_); rintro e w1 ⟨rfl, hb1⟩; have hB1 := HB0.out.trans (hb1.mono HB0.out.size); have HB1 := Lib.hid hB1; clear hB1) | (go_at_call 42; (with_reducible refine (HF2.out _ HB1.out).mono ?_); rintro e w2 ⟨rfl, hb2⟩; have hB2 := HB1.out.trans (hb2.mono HB1.out.size); have HB2 := Lib.hid hB2; clear hB2) | (go_at_call 79; refine (HM.out _ HB2.out).mono ?_; rintro e w3 ⟨rfl, hb3⟩; obtain ⟨_, r1, r2, r3, r4, _⟩ := HRR.out _ _ _ hb1 hb2 hb3))
  obtain ⟨r0, _, _, _, _, hj2⟩ := HRR.out _ _ _ hb1 hb2 hb3
  have t0 := sc_at w3 ⟨w.heap.size, 0, none⟩ (.string (Nm.Tx (n / Int.gcd n d))) rfl r0
  have t1 := sc_at _ ⟨w.heap.size, 1, none⟩ (.string (Nm.Tx (d / Int.gcd n d))) rfl t0
  exact bodyPost_ret (results_ct rfl _ _ _ _ _ _ _ rfl t1 Tryz.underlying44 rfl (by kernel_rfl)) rfl ⟨rfl, (hj2.setCell (p := ⟨w.heap.size, 0, none⟩) (Nat.le_refl _) _).setCell (p := ⟨w.heap.size, 1, none⟩) (Nat.le_refl _) _⟩
end Go.Proofs.YtbenflnpnohcjaaGreatDoor
