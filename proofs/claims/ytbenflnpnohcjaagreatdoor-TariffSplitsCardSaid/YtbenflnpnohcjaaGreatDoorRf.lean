/- Words for loops over iterators: what a loop's body keeps (all rows of cells but the loop's own variables); calls at the wide fence. -/
import Derived.RangeFuncNested
import Derived.RangeFuncBound
import Derived.RangeFuncCalls
import Derived.RangeFuncLeaves
import Derived.Shelf.Abstract
import Derived.WalkKit
import Derived.OwnWalkIn
import Derived.TacticsInMore
import Derived.LoopNIn
import Derived.LoopIn
import Derived.KernelRfl
namespace Go.Proofs.YtbenflnpnohcjaaGreatDoor
open Go.RowKit

/-- Between two worlds every row of cells lies as it lay, but those that S names (by their number and their elements' type). -/
structure KpS (S : Nat → TypeId → Prop) (W W' : World) : Prop where
  size : W.heap.size ≤ W'.heap.size
  same : ∀ k c t f, ¬ S k t → W.heap[k]? = some (.cells c t f) → W'.heap[k]? = some (.cells c t f)

theorem KpS.refl (S : Nat → TypeId → Prop) (W : World) : KpS S W W := ⟨Nat.le_refl _, fun _ _ _ _ _ h => h⟩
theorem KpS.trans {S : Nat → TypeId → Prop} {A B C : World} (h : KpS S A B) (k : KpS S B C) : KpS S A C := ⟨Nat.le_trans h.size k.size, fun i c t f hi ho => k.same i c t f hi (h.same i c t f hi ho)⟩
theorem KpS.of_below {S : Nat → TypeId → Prop} {W W' : World} (h : Below W.heap.size W W') : KpS S W W' := ⟨h.size, fun k _ _ _ _ ho => (h.block k (Array.getElem?_eq_some_iff.1 ho).1).trans ho⟩
theorem KpS.grown {S : Nat → TypeId → Prop} {A W W' : World} (h : KpS S A W) {row : Option Nat} (hg : W.grownBy W' row) (hr : ∀ r, row = some r → ∀ c t f, W.heap[r]? = some (.cells c t f) → S r t) : KpS S A W' :=
  ⟨Nat.le_trans h.size hg.size, fun k c t f hk ho => by
    have h1 := h.same k c t f hk ho
    refine (hg.block k (Array.getElem?_eq_some_iff.1 h1).1 (fun e => ?_)).trans h1
    exact hk (hr k e.symm c t f h1)⟩
theorem KpS.setCell {S : Nat → TypeId → Prop} {A W : World} (h : KpS S A W) {p : Addr} (hp : ∀ c t f, W.heap[p.block]? = some (.cells c t f) → S p.block t) (v : Value) : KpS S A (W.setCell p v) :=
  ⟨by simpa using h.size, fun k c t f hk ho => by
    have h1 := h.same k c t f hk ho
    by_cases e : k = p.block
    · subst e; exact absurd (hp c t f h1) hk
    · exact (Below.heap_setCell W p v k e).trans h1⟩
theorem KpS.alloc {S : Nat → TypeId → Prop} {A W : World} (h : KpS S A W) (o : Obj) : KpS S A (W.alloc o) :=
  h.trans (KpS.of_below ((Below.refl _ W).alloc (Nat.le_refl _) o))
theorem KpS.below {S : Nat → TypeId → Prop} {A W W' : World} (h : KpS S A W) (hb : Below W.heap.size W W') : KpS S A W' := h.trans (KpS.of_below hb)
theorem kpS_t {S : Nat → TypeId → Prop} {A B C : World} (h : KpS S A B) (k : KpS S B C) : KpS S A C := h.trans k
theorem kpS_b {S : Nat → TypeId → Prop} {w : World} (W : World) (l : Nat) (o o' : Obj) (_ : w.heap.size ≤ l) (h : W.heap[l]? = some o) (hc : o.isCells = false) (_ : o.isWalk = false) : KpS S W (W.putObj l o') := by
  refine ⟨by simp [World.putObj], fun k c t f _ hk => ?_⟩
  have hne : l ≠ k := by
    intro e; subst e; rw [h] at hk; cases hk; cases hc
  exact (World.putObj_heap_other hne.symm).trans hk
/-- A cell of a row that S doesn't name. -/
theorem KpS.cell {S : Nat → TypeId → Prop} {W W' : World} (h : KpS S W W') {p : Addr} (hk : ∀ c t f, W.heap[p.block]? = some (.cells c t f) → ¬ S p.block t) {v : Value} (hc : W.cell? p = some v) : W'.cell? p = some v := by
  unfold World.cell? at hc ⊢
  cases ho : W.heap[p.block]? with
  | none => rw [ho] at hc; cases hc
  | some o =>
    cases o with
    | cells c t f => rw [h.same _ c t f (hk c t f ho) ho]; rw [ho] at hc; exact hc
    | _ => rw [ho] at hc; cases hc

/-- Block k is a row of cells of elements of type t. -/
def Typed (W : World) (k : Nat) (t : TypeId) : Prop := ∃ c f, W.heap[k]? = some (.cells c t f)
theorem Typed.lt {W : World} {k : Nat} {t : TypeId} (h : Typed W k t) : k < W.heap.size := by obtain ⟨c, f, h⟩ := h; exact (Array.getElem?_eq_some_iff.1 h).1
theorem Typed.below {W W' : World} {k : Nat} {t : TypeId} (h : Typed W k t) (hb : Below W.heap.size W W') : Typed W' k t := by
  obtain ⟨c, f, h1⟩ := h; exact ⟨c, f, (hb.block k (Array.getElem?_eq_some_iff.1 h1).1).trans h1⟩
theorem Typed.kps {S : Nat → TypeId → Prop} {W W' : World} {k : Nat} {t : TypeId} (h : Typed W k t) (hk : KpS S W W') (hS : ¬ S k t) : Typed W' k t := by
  obtain ⟨c, f, h1⟩ := h; exact ⟨c, f, hk.same k c t f hS h1⟩
theorem Typed.is {W : World} {k : Nat} {t : TypeId} (h : Typed W k t) {S : Nat → TypeId → Prop} (hS : ¬ S k t) : ∀ c u f, W.heap[k]? = some (.cells c u f) → ¬ S k u := fun c u f h' => by
  obtain ⟨c', f', h1⟩ := h; rw [h1] at h'; cases h'; exact hS

theorem typed_at (W : World) (c : Array Value) (t : TypeId) {k : Nat} (hk : k = W.heap.size) : Typed (W.alloc (.cells c t)) k t := ⟨c, (0, 0), by rw [hk]; exact World.alloc_heap_new W _⟩
theorem Typed.alloc {W : World} {k : Nat} {t : TypeId} (h : Typed W k t) (o : Obj) : Typed (W.alloc o) k t := h.below ((Below.refl _ W).alloc (Nat.le_refl _) o)

theorem grown_of_below {w w1 : World} (h : Below w.heap.size w w1) (row : Option Nat) : w.grownBy w1 row := ⟨h.os, h.tape, h.output, h.size, fun i hi _ => h.block i hi⟩
/-- What abides new blocks abides a call that lays new blocks alone. -/
theorem abides_below {β : Type} {B : Nat} {J : β → World → Prop} (h : AbidesFrom B J) {s : β} {W W' : World} (hs : J s W) (hb : Below W.heap.size W W') : J s W' :=
  h s W W' none hs (grown_of_below hb none) (by intro r e; cases e)

/-- A contract at the wide fence. -/
theorem wideC {n : Nat} {P : Program} {f : FuncId} {args : Array Value} {w : World} {R : Ending → World → Prop} (h : Calls P f args w R) : CallsIn Fence.wide n P f args w R := callsIn_wide.2 h
theorem wideC' {n : Nat} {P : Program} {f : FuncId} {args : Array Value} {w : World} {R : Ending → World → Prop} (h : CallsIn Fence.wide n P f args w R) : Calls P f args w R := callsIn_wide.1 h

/-- What keeps the other objects: new blocks alone. -/
theorem keepsOthers_below {W W' : World} (h : Below W.heap.size W W') : KeepsOthers W W' := ⟨h.size, fun k _o ho _ => (h.block k (Array.getElem?_eq_some_iff.1 ho).1).trans ho⟩
theorem keepsFrom_below {B : Nat} {W W' : World} (h : Below W.heap.size W W') : KeepsFrom B W W' := (keepsOthers_below h).from B
end Go.Proofs.YtbenflnpnohcjaaGreatDoor
