/- Plain law of tariff.Cheapest: the beginnings that are tried hold the first one of the least sums. -/
import Derived.Test.YtbenflnpnohcjaaGreatDoorTfChg
namespace Go.Proofs.YtbenflnpnohcjaaGreatDoor.Tf

/-- s is at least as good as t: its sum is less, or the same and it begins no later. -/
def Lex (f : Int → Int) (n s t : Int) : Prop := win f n s < win f n t ∨ win f n s = win f n t ∧ s ≤ t
theorem Lex.refl (f : Int → Int) (n s : Int) : Lex f n s s := .inr ⟨rfl, Int.le_refl _⟩
theorem Lex.trans {f : Int → Int} {n s t u : Int} (h : Lex f n s t) (k : Lex f n t u) : Lex f n s u := by unfold Lex at *; omega

/-- One more beginning is tried. -/
def tryB (f : Int → Int) (n a last t best : Int) : Int := if (a ≤ t ∧ t ≤ last) ∧ (win f n t < win f n best ∨ win f n t = win f n best ∧ t < best) then t else best
theorem tryB_in {f : Int → Int} {n a last t best : Int} (h : a ≤ best ∧ best ≤ last) : a ≤ tryB f n a last t best ∧ tryB f n a last t best ≤ last := by
  unfold tryB; split
  · rename_i k; exact k.1
  · exact h
theorem tryB_le (f : Int → Int) (n a last t best : Int) : Lex f n (tryB f n a last t best) best := by
  unfold tryB; split
  · rename_i k; unfold Lex; omega
  · exact Lex.refl _ _ _
theorem tryB_at (f : Int → Int) (n a last t best : Int) (h : a ≤ t ∧ t ≤ last) : Lex f n (tryB f n a last t best) t := by
  unfold tryB; split
  · exact Lex.refl _ _ _
  · rename_i k; unfold Lex; omega

/-- Both beginnings of a piece are tried. -/
def tryP (wr : Int → Int) (f : Int → Int) (n a last : Int) (best : Int) (p : Pc) : Int := tryB f n a last (wr (p.frm - n)) (tryB f n a last p.frm best)
def bestOf (wr f : Int → Int) (n a last : Int) (l : List Pc) : Int := l.foldl (tryP wr f n a last) a
theorem bestOf_snoc (wr f : Int → Int) (n a last : Int) (l : List Pc) (p : Pc) : bestOf wr f n a last (l ++ [p]) = tryP wr f n a last (bestOf wr f n a last l) p := by simp [bestOf]

theorem fold_tries {wr f : Int → Int} {n a last : Int} : ∀ (l : List Pc) (best : Int), (a ≤ best ∧ best ≤ last) →
    (a ≤ l.foldl (tryP wr f n a last) best ∧ l.foldl (tryP wr f n a last) best ≤ last) ∧ Lex f n (l.foldl (tryP wr f n a last) best) best ∧
      ∀ p ∈ l, (a ≤ p.frm ∧ p.frm ≤ last → Lex f n (l.foldl (tryP wr f n a last) best) p.frm) ∧ (a ≤ wr (p.frm - n) ∧ wr (p.frm - n) ≤ last → Lex f n (l.foldl (tryP wr f n a last) best) (wr (p.frm - n)))
  | [], best, h => ⟨h, Lex.refl _ _ _, by simp⟩
  | p :: l, best, h => by
    obtain ⟨h1, h2, h3⟩ := fold_tries (wr := wr) (f := f) (n := n) l (tryP wr f n a last best p) (tryB_in (tryB_in h))
    refine ⟨h1, h2.trans ((tryB_le ..).trans (tryB_le ..)), ?_⟩
    intro q hq
    rcases List.mem_cons.1 hq with rfl | hq
    · exact ⟨fun k => h2.trans ((tryB_le ..).trans (tryB_at _ _ _ _ _ _ k)), fun k => h2.trans (tryB_at _ _ _ _ _ _ k)⟩
    · exact h3 q hq

theorem Chain.change {f : Int → Int} : ∀ {l : List Pc} {a b t : Int}, Chain f a b l → a < t → t < b → f t ≠ f (t - 1) → ∃ p ∈ l, p.frm = t
  | [], a, b, t, h, h1, h2, _ => by have : a = b := h; omega
  | p :: l, a, b, t, h, h1, h2, h3 => by
    obtain ⟨c1, c2, c3, c4, c5⟩ := h
    by_cases k : t < p.til
    · rw [c4 t (by omega) k, c4 (t - 1) (by omega) (by omega)] at h3
      exact absurd rfl h3
    by_cases k2 : t = p.til
    · cases l with
      | nil => have : p.til = b := c5; omega
      | cons q l =>
        have : q.frm = p.til := c5.1
        exact ⟨q, by simp, by omega⟩
    · obtain ⟨q, hq, e⟩ := Chain.change c5 (t := t) (by omega) h2 h3
      exact ⟨q, List.mem_cons_of_mem _ hq, e⟩

theorem first_tried {wr f : Int → Int} {n a b : Int} {l : List Pc} (hc : Chain f a b l) (hn : 1 ≤ n) (hl : a + n ≤ b) (hw : ∀ t, a ≤ t → t ≤ b - n → wr t = t) : First f n a (b - n) (tryB f n a (b - n) (b - n) (bestOf wr f n a (b - n) l)) := by
  obtain ⟨t, ht⟩ := First.exists' f n (a := a) (b := b - n) (by omega)
  obtain ⟨h1, h2, h3⟩ := fold_tries (wr := wr) (f := f) (n := n) (a := a) (last := b - n) l a (by omega)
  have hin := tryB_in (f := f) (n := n) (t := b - n) h1
  have k1 := tryB_le f n a (b - n) (b - n) (l.foldl (tryP wr f n a (b - n)) a)
  have k2 := tryB_at f n a (b - n) (b - n) (l.foldl (tryP wr f n a (b - n)) a) (by omega)
  have key : Lex f n (tryB f n a (b - n) (b - n) (bestOf wr f n a (b - n) l)) t := by
    rcases ht.at (by omega) with rfl | rfl | h | h
    · exact k1.trans h2
    · exact k2
    · obtain ⟨g1, g2, _⟩ := ht
      by_cases e : t = a
      · rw [e]; exact k1.trans h2
      obtain ⟨p, hp, he⟩ := hc.change (t := t) (by omega) (by omega) h
      rw [← he]
      exact k1.trans ((h3 p hp).1 (by omega))
    · obtain ⟨g1, g2, _⟩ := ht
      by_cases e : t = b - n
      · rw [e]; exact k2
      obtain ⟨p, hp, he⟩ := hc.change (t := t + n) (by omega) (by omega) h
      have e2 : wr (p.frm - n) = t := by rw [show p.frm - n = t by omega, hw t (by omega) (by omega)]
      rw [← e2]
      exact k1.trans ((h3 p hp).2 (by omega))
  refine ⟨hin.1, hin.2, fun s s1 s2 => ?_⟩
  have := ht.2.2 s s1 s2
  exact Lex.trans key this

end Go.Proofs.YtbenflnpnohcjaaGreatDoor.Tf
