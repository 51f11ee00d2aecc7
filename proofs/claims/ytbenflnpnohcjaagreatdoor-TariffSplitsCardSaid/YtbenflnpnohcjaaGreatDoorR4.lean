/- The reference's texts: text, checked. -/
import Derived.Test.YtbenflnpnohcjaaGreatDoorR3
import Derived.Laws.IdiomStrings
namespace Go.Proofs.YtbenflnpnohcjaaGreatDoor
open Go.RowKit Go.Shelf

/-- append(v, z), of a byte, to a row of our own. -/
theorem app_byte {ops : Array Oper} {rest : List Oper} {o : Oper} {a : Act} {Q : Exit → Act → World → Prop} (hgd : o.guard = none) (s x : Operand)
    (ho : o.op = .call { callee := .builtin .append, args := #[s, x], argTypes := #[136, 136] }) (base : Nat) (w : World) (v : Value) (k : Nat) (xs : List UInt8) (z : UInt8) (zi : Int) (hz : zi = (z.toNat : Int)) (hs : a.eval s = v) (hown : w.ownsRow base 5 1 v k (Lib.byteCells xs))
    (hx : a.eval x = .slice (some ⟨w.heap.size, 0, none⟩) 1 1) (hk : k ≤ 1000000) (hbase : base ≤ w.heap.size)
    (h : ∀ ao n' cp w', w'.ownsRow base 5 1 (.slice ao n' cp) (k + 1) (Lib.byteCells (xs ++ [z])) → Below base w w' → wpList Tryz.prog ops Q rest (a.put o.dst (.slice ao n' cp)) w') :
    wpList Tryz.prog ops Q (o :: rest) a (w.alloc (.cells #[.int .u8 zi] 5)) := by
  obtain ⟨i0, hi0, hz0, hz1, hz2⟩ := info_parts (show (Tryz.prog.info? 5).map (fun i => (i.zero, i.size, i.bytes)) = some (some (.int .u8 0), 1, 1) by kernel_rfl)
  refine wpList_append_own _ hgd s x 136 ho base 5 i0 (.int .u8 0) 1 1 Tryz.underlying136 hi0 hz0 hz1 hz2 rfl (by decide) v k _ hs (hown.alloc _) ⟨w.heap.size, 0, none⟩ 1 1 [.int .u8 zi] hx rfl (cell_one_new _ _ _) ?_ ?_ ?_ ?_ ?_
  · intro u hu; simp at hu; subst hu; rfl
  · unfold maxLen; omega
  · omega
  · simp; omega
  · intro v' w' hown' hgrow _
    have hb : Below base w w' := ((Below.refl _ w).alloc hbase _).grown hgrow (by simp; omega) (fun k hk => (hown.lt k hk).1)
    obtain ⟨ao, n', cp, rfl⟩ : ∃ ao n' cp, v' = .slice ao n' cp := by
      rcases hown'.2 with ⟨h1, _⟩ | ⟨g, cap, cur, h1, _⟩
      · exact ⟨_, _, _, h1⟩
      · exact ⟨_, _, _, h1⟩
    subst hz
    exact h ao n' cp w' (by simpa [Lib.byteCells] using hown') hb

/-- string(v), of a row of our own. -/
theorem conv_own (w : World) (base : Nat) (v : Value) (l : List UInt8) (h : w.ownsRow base 5 1 v l.length (Lib.byteCells l)) (hl : l ≠ []) : (convert 136 9 v).run Tryz.prog w = .ok (.string ⟨l.toArray⟩) w := by
  have h' := h
  rcases h'.2 with ⟨_, h2⟩ | ⟨g, cap, cur, h1, _⟩
  · exact absurd (List.eq_nil_of_length_eq_zero h2) hl
  · rw [h1] at h ⊢
    refine run_convert_bytes_back w 136 9 5 ⟨g, 0, none⟩ cap l Tryz.underlying136 (by kernel_rfl) Tryz.underlying9 ?_
    intro j hj
    have := h.cellAt j (by omega)
    have e : (⟨g, 0, none⟩ : Addr).add j = ⟨g, j, none⟩ := by cases j <;> simp [Addr.add]
    rw [e, this]
    simp [Lib.byteCells, List.getElem?_eq_getElem hj]

theorem ds_tx (N : Nat) : dsB N = Nm.Tx N := by
  apply Nm.ba_ext
  rw [Nm.tx_list, Nm.itoa_pos (by omega), Int.natAbs_natCast]
  rfl
theorem tq_len {N k : Nat} : (Nm.tq N k).length ≤ Lib.nDigits N + 1 := by
  unfold Nm.tq
  split
  · simp
  · rw [Lib.decDigits_length]
    have h1 : N / 10 ^ k < 10 ^ Lib.nDigits N := Nat.lt_of_le_of_lt (Nat.div_le_self _ _) (Lib.lt_pow_nDigits N)
    have := (Nm.nDigits_le (N / 10 ^ k) (Lib.nDigits N) (Lib.nDigits_pos N)).2 h1
    omega

set_option maxRecDepth 100000 in
set_option maxHeartbeats 400000 in
theorem textD_any (N : Nat) (v : Value) (w : World) (hv : NumD w v N) (lN : (Nm.grp 10 N).length ≤ 1000) :
    Calls Tryz.prog 104 #[.bool false, v] w fun e w' => e = .returned (.tuple #[.string (Nm.Tx N), .bool (decide (N < Nm.lim))]) ∧ Below w.heap.size w w' := by
  obtain ⟨A, c, rfl, h1, h2, h3, _⟩ := hv
  by_cases hN : N = 0
  · have hl0 : (Nm.grp 10 N).length = 0 := by rw [hN, Nm.grp_zero]; rfl
    have hlim : decide (N < Nm.lim) = true := decide_eq_true (by rw [hN]; unfold Nm.lim; exact Nat.pos_of_ne_zero (by decide))
    have htx : Nm.Tx (N : Int) = ⟨#[48]⟩ := by rw [hN]; exact Nm.tx_zero false
    rw [hlim, htx]
    clear h1 h2 hlim htx hN lN
    go_enter Tryz.func104, Tryz.ntmps104
    go_wp2
    go_ret2
    exact ⟨rfl, Below.refl _ _⟩
  · have hl0 : (((Nm.grp 10 N).length : Int) == 0) = false := by
      have := (Nm.grp_lt_iff (b := 10) (by omega) N 0).2 (by simpa using hN)
      rw [beq_eq_false_iff_ne]; omega
    have hat : ∀ k, (Nm.grp 10 N).getD k 0 = ((N / 10 ^ k % 10 : Nat) : Int) := fun k => Nm.grp_at (by omega) k N
    have hnd := Nm.nDigits_grp hN
    have hlim : decide ((Nm.grp 10 N).length ≤ 200) = decide (N < Nm.lim) := by
      rw [← hnd, ← Lib.decDigits_length, decide_eq_decide]; exact Nm.dec_len_le N
    rw [← ds_tx, ← hlim]
    have hst : ∀ k, k < (Nm.grp 10 N).length → Nm.tq N k = Nm.tq N (k + 1) ++ [UInt8.ofNat (48 + N / 10 ^ k % 10)] := fun k h => Nm.tq_step h
    have hen := Nm.tq_end N
    have hal := Nm.tq_all hN
    have hwl : IntKind.i64.wrap (((Nm.grp 10 N).length : Int) - 1) = ((Nm.grp 10 N).length : Int) - 1 := IntWalk.i64_in _ (by omega)
    have htl : ∀ k, (Nm.tq N k).length ≤ 1001 := fun k => by have := @tq_len N k; omega
    have HALL := Lib.hid (And.intro hat (And.intro hst (And.intro hen (And.intro hal htl))))
    have H1 := Lib.hid h1
    clear hat hst hen hal htl h1 hlim hnd
    generalize Nm.grp 10 N = l at *
    go_enter Tryz.func104, Tryz.ntmps104
    go_wp2
    go_loopw [6, 7] (fun so si wr => ∃ (k : Nat), si = .int .i64 ((k : Int) - 1) ∧ k ≤ l.length ∧ wr.ownsRow w.heap.size 5 1 so (Nm.tq N k).length (Lib.byteCells (Nm.tq N k)) ∧ Aside (Below w.heap.size w wr)) (fun _ si _ => (intOf si + 1).toNat)
    case atStart => exact ⟨l.length, rfl, Nat.le_refl _, by rw [HALL.out.2.2.1]; simp [World.ownsRow, Lib.byteCells], Below.refl _ _⟩
    case round =>
      obtain ⟨k, rfl, hk, hown, BW⟩ := hrel
      cases k with
      | zero =>
        have hco := conv_own wr _ _ _ hown (by rw [HALL.out.2.2.2.1]; exact Nm.dec_ne N)
        rw [HALL.out.2.2.2.1] at hco
        have hds : (⟨(Lib.decDigits N).toArray⟩ : ByteArray) = dsB N := rfl
        rw [hds] at hco
        have hde : decide (l.length ≤ 200) = decide ((l.length : Int) ≤ 200) := by rw [decide_eq_decide]; omega
        have HDE := Lib.hid hde
        clear hde
        go_wp2
        go_ret2
        exact ⟨by rw [HDE.out]; rfl, BW.out⟩
      | succ k =>
        obtain ⟨b, rfl, hb⟩ : ∃ b, A = some ⟨b, 0, none⟩ ∧ IntsAt w b l := by
          rcases H1.out with h' | h'
          · rw [h'] at hk; simp at hk
          · exact h'
        have e1 := cell_below BW.out (hb.2 k (by omega))
        rw [HALL.out.1 k] at e1
        have hd : N / 10 ^ k % 10 < 10 := Nat.mod_lt _ (by omega)
        have HST := Lib.hid (HALL.out.2.1 k (by omega))
        generalize N / 10 ^ k % 10 = d at *
        have hks : (((k + 1 : Nat) : Int) - 1) = (k : Int) := by omega
        have hkz : (k : Int) < (l.length : Int) := by omega
        have hzz : (48 : Int) + (d : Int) = (((UInt8.ofNat (48 + d)).toNat : Nat) : Int) := by rw [Nm.ofNat_toNat hd]; omega
        have HZZ := Lib.hid hzz
        have HTL := Lib.hid (HALL.out.2.2.2.2 (k + 1))
        rw [hks]
        clear hks hb hzz
        go_wp2_with (at_builtin; refine app_byte rfl (.tmp 22) (.tmp 29) rfl w.heap.size wr _ _ (Nm.tq N (k + 1)) (UInt8.ofNat (48 + d)) (48 + (d : Int)) HZZ.out rfl hown rfl (Nat.le_trans HTL.out (by omega)) BW.out.size ?_; intro ao n' cp w2 hown' hb2; have HOW := Lib.hid hown'; clear hown')
        refine ⟨⟨k, rfl, by omega, ?_, BW.out.trans hb2⟩, by simp [intOf] <;> omega⟩
        rw [HST.out, List.length_append]
        exact HOW.out

theorem len10_lim {N : Nat} (h : N < Nm.lim) : (Nm.grp 10 N).length ≤ 200 := Nm.grp_length_le (by omega) 200 N (by unfold Nm.lim at h; exact h)

theorem checkedD_any (N : Nat) (v : Value) (w : World) (hv : NumD w v N) (hN : N < Nm.lim) :
    Calls Tryz.prog 135 #[.bool false, v] w fun e w' => e = .returned (.tuple #[.string (Nm.Tx N), .int .i64 0]) ∧ Below w.heap.size w w' := by
  have H := textD_any N v w hv (by have := len10_lim hN; omega)
  rw [decide_eq_true hN] at H
  have HH := Lib.hid H
  obtain ⟨A, c, rfl, _⟩ := hv
  clear H
  go_enter Tryz.func135, Tryz.ntmps135
  go_wp2_with (go_at_call 104; refine HH.out.mono ?_; rintro e w1 ⟨rfl, hb1⟩)
  go_ret2
  exact ⟨rfl, hb1⟩

/-! The digits of a text. -/
theorem txn_size {N : Nat} (h : N ≠ 0) : (Nm.Tx N).size = (Nm.grp 10 N).length := by
  rw [← ds_tx, dsB_size, Lib.decDigits_length, Nm.nDigits_grp h]
theorem ba_at (s : ByteArray) (i : Nat) (h : i < s.size) (c : UInt8) (hc : s.data.toList[i]? = some c) : s[i] = c := by
  have h5 : s.data.toList[i]? = some s[i] := by
    rw [Array.getElem?_toList, Array.getElem?_eq_getElem h]; rfl
  rw [h5] at hc
  exact Option.some.inj hc
theorem txn_list (N : Nat) : (Nm.Tx N).data.toList = Lib.decDigits N := by
  rw [Nm.tx_list, Nm.itoa_pos (by omega), Int.natAbs_natCast]
theorem txn_at {N : Nat} (h : N ≠ 0) (k : Nat) (hk : k < (Nm.grp 10 N).length) (i : Nat) (hi : i + k + 1 = (Nm.grp 10 N).length) (h2 : i < (Nm.Tx N).size) : (Nm.Tx N)[i].toNat = 48 + N / 10 ^ k % 10 := by
  have e := Nm.dec_at h k hk
  rw [show (Nm.grp 10 N).length - 1 - k = i by omega] at e
  rw [ba_at _ i h2 _ (by rw [txn_list]; exact e), Nm.ofNat_toNat (Nat.mod_lt _ (by omega))]

set_option maxRecDepth 100000 in
set_option maxHeartbeats 400000 in
theorem digitsD_any (N : Nat) (hN : N < Nm.lim) (w : World) :
    Calls Tryz.prog 131 #[.string (Nm.Tx N)] w fun e w' => (∃ v, e = .returned (.tuple #[.bool false, v]) ∧ NumD w' v N) ∧ Below w.heap.size w w' := by
  have hu36 : Tryz.prog.underlying 36 = some (.slice 3) := by kernel_rfl
  have lN := len10_lim hN
  by_cases h0 : N = 0
  · have htx : Nm.Tx (N : Int) = ⟨#[48]⟩ := by rw [h0]; exact Nm.tx_zero false
    rw [htx]
    clear htx lN
    go_enter Tryz.func131, Tryz.ntmps131
    go_wp2
    go_loopw [5, 6] (fun s5 s6 wr => s5 = .slice none 0 0 ∧ s6 = .int .i64 0 ∧ wr = w) (fun _ _ _ => 0)
    case atStart => exact ⟨rfl, rfl, rfl⟩
    case round =>
      obtain ⟨rfl, rfl, rfl⟩ := hrel
      go_wp2
      go_ret2
      exact ⟨⟨_, rfl, by rw [h0]; exact numD_zero _⟩, Below.refl _ _⟩
  · have hsz := txn_size h0
    have hlp := (Nm.grp_lt_iff (b := 10) (by omega) N 0).2 (by simpa using h0)
    have hat := @txn_at N h0
    have hne : ((Nm.Tx (N : Int)).toList == [48]) = false := by
      rw [ba_toList, beq_eq_false_iff_ne, txn_list]
      intro e
      have := Nm.dv_dec N
      rw [e] at this
      exact h0 this.symm
    have hc0 : ∀ h : 0 < (Nm.Tx (N : Int)).size, ((((Nm.Tx (N : Int))[0]'h).toNat : Int) == 45) = false := fun h => by
      rw [hat ((Nm.grp 10 N).length - 1) (by omega) 0 (by omega) h, beq_eq_false_iff_ne]
      omega
    have hts : ∀ k, k < (Nm.grp 10 N).length → (Nm.grp 10 N).take (k + 1) = (Nm.grp 10 N).take k ++ [((N / 10 ^ k % 10 : Nat) : Int)] := fun k hk => Nm.grp_take_snoc hk
    have HALL := Lib.hid (And.intro hat hts)
    clear hat hts
    generalize hl : Nm.grp 10 N = l at *
    generalize Nm.Tx (N : Int) = s at *
    have HL := Lib.hid hl
    clear hl
    have hwl : IntKind.i64.wrap ((s.size : Int) - 1) = (l.length : Int) - 1 := by rw [hsz]; exact IntWalk.i64_in _ (by omega)
    go_enter Tryz.func131, Tryz.ntmps131
    go_wp2
    go_loopw [5, 6] (fun so si wr => ∃ (k : Nat), si = .int .i64 ((k : Int) - 1) ∧ k ≤ l.length ∧ wr.ownsRow w.heap.size 3 1 so (l.length - k) ((l.take (l.length - k)).map (Value.int .i64)) ∧ Aside (Below w.heap.size w wr)) (fun _ si _ => (intOf si + 1).toNat)
    case atStart => exact ⟨l.length, rfl, Nat.le_refl _, by simp [World.ownsRow], Below.refl _ _⟩
    case round =>
      obtain ⟨k, rfl, hk, hown, BW⟩ := hrel
      cases k with
      | zero =>
        rw [Nat.sub_zero, List.take_length] at hown
        obtain ⟨A1, c1, hv, hsl, hrest⟩ := slAt_owns (show OwnsInts wr w.heap.size _ l from hown)
        have HF := Lib.hid (And.intro hsl hrest)
        subst hv
        clear hown hsl hrest
        go_wp2
        go_ret2
        exact ⟨⟨.slice A1 l.length c1, rfl, ⟨A1, c1, by rw [HL.out], by rw [HL.out]; exact HF.out.1, by rw [HL.out]; exact HF.out.2⟩⟩, BW.out⟩
      | succ k =>
        have hd : N / 10 ^ (l.length - (k + 1)) % 10 < 10 := Nat.mod_lt _ (by omega)
        have hb : ∀ h : k < s.size, (s[k]'h).toNat = 48 + N / 10 ^ (l.length - (k + 1)) % 10 := fun h => HALL.out.1 (l.length - (k + 1)) (by omega) k (by omega) h
        have HTS := Lib.hid (HALL.out.2 (l.length - (k + 1)) (by omega))
        generalize N / 10 ^ (l.length - (k + 1)) % 10 = d at *
        have hks : (((k + 1 : Nat) : Int) - 1) = (k : Int) := by omega
        have hkz : (k : Int) < (s.size : Int) := by omega
        have hwd : IntKind.u8.wrap (d : Int) = (d : Int) := IntWalk.u8_in _ (by omega)
        have hee : (48 : Int) + (d : Int) - 48 = (d : Int) := by omega
        have hl1 : l.length - (k + 1) + 1 = l.length - k := by omega
        have HL1 := Lib.hid hl1
        rw [hks]
        clear hks hl1
        go_wp2_with (at_builtin; refine app_int 36 hu36 rfl (.tmp 24) (.tmp 30) rfl w.heap.size wr _ _ (l.take (l.length - (k + 1))) (d : Int) rfl hown rfl (by omega) BW.out.size ?_; intro ao n' cp w2 hown' hb2; have HOW := Lib.hid hown'; clear hown')
        refine ⟨⟨k, rfl, by omega, ?_, BW.out.trans hb2⟩, by simp [intOf] <;> omega⟩
        rw [← HL1.out, HTS.out]
        exact HOW.out
end Go.Proofs.YtbenflnpnohcjaaGreatDoor
