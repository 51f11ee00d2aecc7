/- Plain facts about tariffs: prices, sums and pieces as numbers and lists, without any program. -/
import Derived.KernelRfl
namespace Go.Proofs.YtbenflnpnohcjaaGreatDoor.Tf

structure Rate where
  days : Int
  frm : Int
  til : Int
  price : Int

structure Tariff where
  rates : List Rate
  base : Int

instance : Inhabited Rate := ⟨⟨0, 0, 0, 0⟩⟩

/-- Whether a rate has a second of the week. -/
def has (s : Int) (r : Rate) : Bool := decide (r.days / 2 ^ (s / 86400).toNat % 2 = 1) && (decide (r.frm ≤ s % 86400) && decide (s % 86400 < r.til))
def rated (x : Tariff) (s : Int) : Int := match x.rates.find? (has s) with
  | some r => r.price
  | none => x.base
def loc (z t : Int) : Int := (t + z + 604800) % 604800
def price (x : Tariff) (z t : Int) : Int := rated x (loc z t)
def okRate (r : Rate) : Bool := decide (1 ≤ r.days ∧ r.days ≤ 127 ∧ 0 ≤ r.frm ∧ r.frm < r.til ∧ r.til ≤ 86400 ∧ 0 ≤ r.price ∧ r.price ≤ 1000000)
def okT (x : Tariff) : Bool := decide (0 ≤ x.base ∧ x.base ≤ 1000000) && (decide (x.rates.length ≤ 10) && x.rates.all okRate)

/-! ### Sums of a function over seconds that follow each other -/
def tot (f : Int → Int) (a : Int) : Nat → Int
  | 0 => 0
  | n + 1 => tot f a n + f (a + n)
def S (f : Int → Int) (a b : Int) : Int := tot f a (b - a).toNat

theorem tot_add (f : Int → Int) (a : Int) (m n : Nat) : tot f a (m + n) = tot f a m + tot f (a + m) n := by
  induction n with
  | zero => simp [tot]
  | succ n ih =>
    rw [← Nat.add_assoc]
    simp only [tot, ih]
    have : a + ((m + n : Nat) : Int) = a + m + n := by omega
    rw [this]; omega

theorem S_add (f : Int → Int) {a b c : Int} (h1 : a ≤ b) (h2 : b ≤ c) : S f a c = S f a b + S f b c := by
  unfold S
  have h : (c - a).toNat = (b - a).toNat + (c - b).toNat := by omega
  rw [h, tot_add]
  have : a + ((b - a).toNat : Int) = b := by omega
  rw [this]

theorem S_self (f : Int → Int) (a : Int) : S f a a = 0 := by simp [S, tot]

theorem tot_congr {f g : Int → Int} {a b : Int} : ∀ n : Nat, (∀ i : Nat, i < n → f (a + i) = g (b + i)) → tot f a n = tot g b n
  | 0, _ => rfl
  | n + 1, h => by
    simp only [tot]
    rw [tot_congr n (fun i hi => h i (by omega)), h n (by omega)]

theorem S_congr {f g : Int → Int} {a b : Int} (h : ∀ t, a ≤ t → t < b → f t = g t) : S f a b = S g a b :=
  tot_congr _ (fun i hi => h _ (by omega) (by omega))

theorem S_shift {f g : Int → Int} {a b d : Int} (h : ∀ t, a ≤ t → t < b → f t = g (t + d)) : S f a b = S g (a + d) (b + d) := by
  unfold S
  have e : (b + d - (a + d)).toNat = (b - a).toNat := by omega
  rw [e]
  exact tot_congr _ (fun i hi => by
    rw [h _ (by omega) (by omega)]
    have : a + (i : Int) + d = a + d + i := by omega
    rw [this])

theorem tot_const {f : Int → Int} {a c : Int} : ∀ n : Nat, (∀ i : Nat, i < n → f (a + i) = c) → tot f a n = c * n
  | 0, _ => by simp [tot]
  | n + 1, h => by
    simp only [tot]
    rw [tot_const n (fun i hi => h i (by omega)), h n (by omega)]
    have : ((n + 1 : Nat) : Int) = n + 1 := by omega
    rw [this, Int.mul_add, Int.mul_one]

theorem S_const {f : Int → Int} {a b c : Int} (hab : a ≤ b) (h : ∀ t, a ≤ t → t < b → f t = c) : S f a b = c * (b - a) := by
  unfold S
  rw [tot_const _ (fun i hi => h _ (by omega) (by omega))]
  have : ((b - a).toNat : Int) = b - a := by omega
  rw [this]

theorem tot_le {f g : Int → Int} {a : Int} : ∀ n : Nat, (∀ i : Nat, i < n → f (a + i) ≤ g (a + i)) → tot f a n ≤ tot g a n
  | 0, _ => by simp [tot]
  | n + 1, h => by
    simp only [tot]
    have h1 := tot_le n (fun i hi => h i (by omega))
    have h2 := h n (by omega)
    omega

theorem S_le {f g : Int → Int} {a b : Int} (h : ∀ t, a ≤ t → t < b → f t ≤ g t) : S f a b ≤ S g a b :=
  tot_le _ (fun i hi => h _ (by omega) (by omega))

theorem tot_mul {f : Int → Int} {a m : Int} : ∀ n : Nat, tot (fun t => m * f t) a n = m * tot f a n
  | 0 => by simp [tot]
  | n + 1 => by
    simp only [tot]
    rw [tot_mul n, Int.mul_add]

theorem S_mul (f : Int → Int) (a b m : Int) : S (fun t => m * f t) a b = m * S f a b := tot_mul _

theorem S_one (f : Int → Int) (a : Int) : S f a (a + 1) = f a := by
  have : (a + 1 - a).toNat = 1 := by omega
  simp [S, this, tot]

/-- Bounds of a sum. -/
theorem S_bounds {f : Int → Int} {a b M : Int} (hab : a ≤ b) (h : ∀ t, a ≤ t → t < b → 0 ≤ f t ∧ f t ≤ M) : 0 ≤ S f a b ∧ S f a b ≤ M * (b - a) := by
  have h0 := S_le (f := fun _ => 0) (g := f) (a := a) (b := b) (fun t h1 h2 => (h t h1 h2).1)
  have h1 := S_le (f := f) (g := fun _ => M) (a := a) (b := b) (fun t h1 h2 => (h t h1 h2).2)
  rw [S_const (c := 0) hab (fun _ _ _ => rfl)] at h0
  rw [S_const (c := M) hab (fun _ _ _ => rfl)] at h1
  exact ⟨by omega, h1⟩

/-! ### Prices -/
theorem loc_range (z t : Int) : 0 ≤ loc z t ∧ loc z t < 604800 := by unfold loc; omega

theorem price_week (x : Tariff) (z t : Int) : price x z (t + 604800) = price x z t := by
  unfold price loc
  have : (t + 604800 + z + 604800) % 604800 = (t + z + 604800) % 604800 := by omega
  rw [this]

theorem price_weeks (x : Tariff) (z t : Int) (k : Nat) : price x z (t + 604800 * k) = price x z t := by
  unfold price loc
  have : (t + 604800 * (k : Int) + z + 604800) % 604800 = (t + z + 604800) % 604800 := by omega
  rw [this]

theorem price_zone (x : Tariff) (z t d : Int) : price x (z - d) (t + d) = price x z t := by
  unfold price loc
  have : t + d + (z - d) + 604800 = t + z + 604800 := by omega
  rw [this]

theorem okT_iff (x : Tariff) : okT x = true ↔ (0 ≤ x.base ∧ x.base ≤ 1000000) ∧ x.rates.length ≤ 10 ∧ ∀ r ∈ x.rates, okRate r = true := by
  simp [okT, List.all_eq_true]

theorem okRate_iff (r : Rate) : okRate r = true ↔ 1 ≤ r.days ∧ r.days ≤ 127 ∧ 0 ≤ r.frm ∧ r.frm < r.til ∧ r.til ≤ 86400 ∧ 0 ≤ r.price ∧ r.price ≤ 1000000 := by
  simp [okRate]

theorem rated_bounds {x : Tariff} (h : okT x = true) (s : Int) : 0 ≤ rated x s ∧ rated x s ≤ 1000000 := by
  rw [okT_iff] at h
  unfold rated
  split
  · rename_i r hr
    have := (okRate_iff r).1 (h.2.2 r (List.mem_of_find?_eq_some hr))
    omega
  · exact h.1

theorem price_bounds {x : Tariff} (h : okT x = true) (z t : Int) : 0 ≤ price x z t ∧ price x z t ≤ 1000000 := rated_bounds h _

theorem sum_bounds {x : Tariff} (h : okT x = true) (z : Int) {a b : Int} (hab : a ≤ b) : 0 ≤ S (price x z) a b ∧ S (price x z) a b ≤ 1000000 * (b - a) :=
  S_bounds hab (fun t _ _ => price_bounds h z t)

/-- Whole weeks are alike. -/
theorem S_weeks (x : Tariff) (z a : Int) (b : Int) : ∀ k : Nat, 0 ≤ b - a → S (price x z) a (b + 604800 * k) = S (price x z) (a + 604800 * k) (b + 604800 * k) + k * S (price x z) a (a + 604800)
  | 0, h => by simp
  | k + 1, h => by
    have ih := S_weeks x z a b k h
    have e1 : ((k + 1 : Nat) : Int) = k + 1 := by omega
    have h1 : S (price x z) a (b + 604800 * ((k + 1 : Nat) : Int)) = S (price x z) a (a + 604800) + S (price x z) (a + 604800) (b + 604800 * ((k + 1 : Nat) : Int)) := S_add _ (by omega) (by omega)
    have h2 : S (price x z) (a + 604800) (b + 604800 * ((k + 1 : Nat) : Int)) = S (price x z) a (b + 604800 * k) := by
      have := S_shift (f := price x z) (g := price x z) (a := a) (b := b + 604800 * k) (d := 604800) (fun t _ _ => (price_week x z t).symm)
      rw [this]
      have e : b + 604800 * ((k + 1 : Nat) : Int) = b + 604800 * k + 604800 := by omega
      rw [e]
    have h3 : S (price x z) (a + 604800 * k) (b + 604800 * k) = S (price x z) (a + 604800 * ((k + 1 : Nat) : Int)) (b + 604800 * ((k + 1 : Nat) : Int)) := by
      have := S_shift (f := price x z) (g := price x z) (a := a + 604800 * k) (b := b + 604800 * k) (d := 604800) (fun t _ _ => (price_week x z t).symm)
      rw [this]
      have e : b + 604800 * ((k + 1 : Nat) : Int) = b + 604800 * k + 604800 := by omega
      have e' : a + 604800 * ((k + 1 : Nat) : Int) = a + 604800 * k + 604800 := by omega
      rw [e, e']
    rw [h1, h2, ih, h3, e1, Int.add_mul, Int.one_mul]
    omega

/-! ### Where prices can change -/
/-- The first border after a second of the day (or the day's end). -/
def nextB (l : List Int) (d : Int) : Int := match l.find? (fun b => decide (d + 1 ≤ b)) with
  | some b => b
  | none => 86400

/-- All borders of the rates lie in the list. -/
def Covers (l : List Int) (x : Tariff) : Prop := ∀ r ∈ x.rates, r.frm ∈ l ∧ r.til % 86400 ∈ l

theorem find_none {l : List Int} {p : Int → Bool} (h : l.find? p = none) : ∀ b ∈ l, p b = false := by
  intro b hb
  have := List.find?_eq_none.1 h b hb
  simpa using this

/-- In an ascending list the first element that is great enough: all smaller ones are not. -/
theorem nextB_spec {l : List Int} (hs : l.Pairwise (· < ·)) (hl : ∀ b ∈ l, b < 86400) (d : Int) (hd : d < 86400) :
    d < nextB l d ∧ nextB l d ≤ 86400 ∧ ∀ b ∈ l, b ≤ d ∨ nextB l d ≤ b := by
  unfold nextB
  induction l with
  | nil => simp; omega
  | cons c l ih =>
    have hs' := List.pairwise_cons.1 hs
    by_cases hc : d + 1 ≤ c
    · rw [List.find?_cons_of_pos (by simpa using hc)]
      refine ⟨by simp; omega, ?_, ?_⟩
      · have := hl c (by simp); simp; omega
      · intro b hb
        rcases List.mem_cons.1 hb with rfl | hb
        · right; simp
        · have := hs'.1 b hb; right; simp; omega
    · rw [List.find?_cons_of_neg (by simpa using hc)]
      obtain ⟨h1, h2, h3⟩ := ih hs'.2 (fun b hb => hl b (by simp [hb]))
      refine ⟨h1, h2, ?_⟩
      intro b hb
      rcases List.mem_cons.1 hb with rfl | hb
      · left; omega
      · exact h3 b hb

theorem find_congr {α : Type} {p q : α → Bool} : ∀ {l : List α}, (∀ r ∈ l, p r = q r) → l.find? p = l.find? q
  | [], _ => rfl
  | r :: l, h => by
    have h1 := h r (by simp)
    simp only [List.find?_cons, h1]
    rw [find_congr (fun s hs => h s (by simp [hs]))]

/-- The price is the same up to the next border. -/
theorem price_same {x : Tariff} (hx : okT x = true) {l : List Int} (hs : l.Pairwise (· < ·)) (hl : ∀ b ∈ l, b < 86400) (hc : Covers l x) {z a t : Int}
    (h1 : a ≤ t) (h2 : t < a + nextB l (loc z a % 86400) - loc z a % 86400) : price x z t = price x z a := by
  have hr := loc_range z a
  obtain ⟨n1, n2, n3⟩ := nextB_spec hs hl (loc z a % 86400) (by omega)
  have e : loc z t = loc z a + (t - a) := by
    unfold loc at *
    omega
  unfold price rated
  have : x.rates.find? (has (loc z t)) = x.rates.find? (has (loc z a)) := by
    refine find_congr (fun r hr' => ?_)
    have ok := (okRate_iff r).1 (((okT_iff x).1 hx).2.2 r hr')
    obtain ⟨c1, c2⟩ := hc r hr'
    have d1 := n3 _ c1
    have d2 := n3 _ c2
    have e1 : loc z t / 86400 = loc z a / 86400 := by rw [e]; omega
    have e2 : loc z t % 86400 = loc z a % 86400 + (t - a) := by rw [e]; omega
    unfold has
    rw [e1, e2]
    have f1 : decide (r.frm ≤ loc z a % 86400 + (t - a)) = decide (r.frm ≤ loc z a % 86400) := by
      rw [decide_eq_decide]; omega
    have f2 : decide (loc z a % 86400 + (t - a) < r.til) = decide (loc z a % 86400 < r.til) := by
      rw [decide_eq_decide]; omega
    rw [f1, f2]
  rw [this]

/-! ### Pieces -/
/-- A spell with a price: from, to, price. -/
structure Pc where
  frm : Int
  til : Int
  price : Int

def upTo (l : List Int) (z b a : Int) : Int := min (a + nextB l (loc z a % 86400) - loc z a % 86400) b
def pieces (x : Tariff) (l : List Int) (z b : Int) : Nat → Int → List Pc
  | 0, _ => []
  | k + 1, a => if a < b then ⟨a, upTo l z b a, price x z a⟩ :: pieces x l z b k (upTo l z b a) else []
def pcs (x : Tariff) (l : List Int) (z a b : Int) : List Pc := pieces x l z b (b - a).toNat a

/-- Pieces that follow each other from a to b, none empty, each with the price at all its seconds. -/
def Chain (f : Int → Int) : Int → Int → List Pc → Prop
  | a, b, [] => a = b
  | a, b, p :: ps => p.frm = a ∧ a < p.til ∧ p.til ≤ b ∧ (∀ t, a ≤ t → t < p.til → f t = p.price) ∧ Chain f p.til b ps

theorem upTo_gt {l : List Int} (hs : l.Pairwise (· < ·)) (hl : ∀ b ∈ l, b < 86400) {z a b : Int} (hab : a < b) : a < upTo l z b a ∧ upTo l z b a ≤ b := by
  have hr := loc_range z a
  obtain ⟨n1, n2, n3⟩ := nextB_spec hs hl (loc z a % 86400) (by omega)
  unfold upTo
  omega

theorem pieces_chain {x : Tariff} (hx : okT x = true) {l : List Int} (hs : l.Pairwise (· < ·)) (hl : ∀ b ∈ l, b < 86400) (hc : Covers l x) (z b : Int) :
    ∀ (k : Nat) (a : Int), a ≤ b → (b - a).toNat ≤ k → Chain (price x z) a b (pieces x l z b k a)
  | 0, a, h1, h2 => by simp only [pieces, Chain]; omega
  | k + 1, a, h1, h2 => by
    simp only [pieces]
    by_cases h : a < b
    · rw [if_pos h]
      obtain ⟨u1, u2⟩ := upTo_gt hs hl (z := z) h
      refine ⟨rfl, u1, u2, ?_, pieces_chain hx hs hl hc z b k _ u2 (by show (b - upTo l z b a).toNat ≤ k; omega)⟩
      intro t t1 t2
      refine price_same hx hs hl hc t1 ?_
      have t2' : t < upTo l z b a := t2
      unfold upTo at t2'
      omega
    · rw [if_neg h]
      simp only [Chain]; omega

/-- What pieces cost together. -/
def cost (l : List Pc) : Int := (l.map fun p => p.price * (p.til - p.frm)).foldl (· + ·) 0

theorem foldl_add (l : List Int) : ∀ c : Int, l.foldl (· + ·) c = c + l.foldl (· + ·) 0 := by
  induction l with
  | nil => intro c; simp
  | cons d l ih => intro c; simp only [List.foldl_cons]; rw [ih (c + d), ih (0 + d)]; omega

theorem cost_cons (p : Pc) (l : List Pc) : cost (p :: l) = p.price * (p.til - p.frm) + cost l := by
  simp only [cost, List.map_cons, List.foldl_cons]
  rw [foldl_add]; omega
theorem cost_nil : cost [] = 0 := rfl
theorem cost_append (l m : List Pc) : cost (l ++ m) = cost l + cost m := by
  induction l with
  | nil => simp [cost]
  | cons p l ih => rw [List.cons_append, cost_cons, cost_cons, ih]; omega
theorem cost_snoc (l : List Pc) (p : Pc) : cost (l ++ [p]) = cost l + p.price * (p.til - p.frm) := by
  rw [cost_append, cost_cons, cost_nil]; omega

theorem Chain.le {f : Int → Int} : ∀ {l : List Pc} {a b : Int}, Chain f a b l → a ≤ b
  | [], a, b, h => by simp only [Chain] at h; omega
  | p :: l, a, b, h => by obtain ⟨_, h2, h3, _, h5⟩ := h; omega

theorem Chain.cost {f : Int → Int} : ∀ {l : List Pc} {a b : Int}, Chain f a b l → cost l = S f a b
  | [], a, b, h => by simp only [Chain] at h; rw [h, S_self]; rfl
  | p :: l, a, b, h => by
    obtain ⟨h1, h2, h3, h4, h5⟩ := h
    rw [cost_cons, Chain.cost h5, S_add f (Int.le_of_lt h2) h3, S_const (Int.le_of_lt h2) h4, h1]

/-- A chain's first pieces are a chain, up to where they end. -/
theorem Chain.append {f : Int → Int} : ∀ {l m : List Pc} {a b : Int}, Chain f a b (l ++ m) → ∃ c, Chain f a c l ∧ Chain f c b m
  | [], m, a, b, h => ⟨a, rfl, h⟩
  | p :: l, m, a, b, h => by
    obtain ⟨h1, h2, h3, h4, h5⟩ := h
    obtain ⟨c, hc1, hc2⟩ := Chain.append h5
    exact ⟨c, ⟨h1, h2, hc1.le, h4, hc1⟩, hc2⟩

/-! ### Runs: as long as possible, so there is just one way -/
/-- Each two pieces that follow each other have different prices. -/
def Apart : List Pc → Prop
  | [] => True
  | [_] => True
  | p :: q :: l => p.price ≠ q.price ∧ Apart (q :: l)
def Runs (f : Int → Int) (a b : Int) (l : List Pc) : Prop := Chain f a b l ∧ Apart l

theorem Apart.tail {p : Pc} {l : List Pc} (h : Apart (p :: l)) : Apart l := by
  cases l with
  | nil => trivial
  | cons q l => exact h.2

theorem Runs.unique {f : Int → Int} : ∀ {l m : List Pc} {a b : Int}, Runs f a b l → Runs f a b m → l = m
  | [], [], _, _, _, _ => rfl
  | [], q :: m, a, b, h, k => by
    have h1 : a = b := h.1
    obtain ⟨_, k2, k3, _, _⟩ := k.1
    omega
  | p :: l, [], a, b, h, k => by
    have h1 : a = b := k.1
    obtain ⟨_, k2, k3, _, _⟩ := h.1
    omega
  | p :: l, q :: m, a, b, h, k => by
    obtain ⟨h1, h2, h3, h4, h5⟩ := h.1
    obtain ⟨k1, k2, k3, k4, k5⟩ := k.1
    have e0 : p.price = q.price := by
      rw [← h4 a (Int.le_refl _) h2, ← k4 a (Int.le_refl _) k2]
    have e1 : p.til = q.til := by
      by_cases c1 : p.til < q.til
      · exfalso
        cases l with
        | nil => have : p.til = b := h5; omega
        | cons r l =>
          obtain ⟨r1, r2, r3, r4, r5⟩ := h5
          have := h.2.1
          have x1 := r4 p.til (Int.le_refl _) r2
          have x2 := k4 p.til (by omega) c1
          omega
      · by_cases c2 : q.til < p.til
        · exfalso
          cases m with
          | nil => have : q.til = b := k5; omega
          | cons r m =>
            obtain ⟨r1, r2, r3, r4, r5⟩ := k5
            have := k.2.1
            have x1 := r4 q.til (Int.le_refl _) r2
            have x2 := h4 q.til (by omega) c2
            omega
        · omega
    have e : p = q := by
      cases p; cases q
      simp only at h1 k1 e0 e1
      simp only [Pc.mk.injEq]
      exact ⟨by omega, e1, e0⟩
    rw [e1] at h5
    rw [e, Runs.unique ⟨h5, h.2.tail⟩ ⟨k5, k.2.tail⟩]

/-- One more piece: it makes the last one longer if it has the same price. -/
def addPc (out : List Pc) (p : Pc) : List Pc := match out.getLast? with
  | some q => if q.price = p.price then out.dropLast ++ [⟨q.frm, p.til, q.price⟩] else out ++ [p]
  | none => [p]
def merged (l : List Pc) : List Pc := l.foldl addPc []

theorem Chain.snoc {f : Int → Int} : ∀ {l : List Pc} {a b : Int} {p : Pc}, Chain f a b l → p.frm = b → b < p.til → (∀ t, b ≤ t → t < p.til → f t = p.price) → Chain f a p.til (l ++ [p])
  | [], a, b, p, h, h1, h2, h3 => by
    have : a = b := h
    subst this
    exact ⟨h1, h2, Int.le_refl _, h3, rfl⟩
  | q :: l, a, b, p, h, h1, h2, h3 => by
    obtain ⟨c1, c2, c3, c4, c5⟩ := h
    exact ⟨c1, c2, by omega, c4, Chain.snoc c5 h1 h2 h3⟩

theorem Apart.snoc : ∀ {l : List Pc} {q p : Pc}, Apart (l ++ [q]) → q.price ≠ p.price → Apart (l ++ [q] ++ [p])
  | [], _, _, _, h => ⟨h, trivial⟩
  | [_r], _q, _p, h, k => ⟨h.1, k, trivial⟩
  | _r :: s :: l, _q, _p, h, k => ⟨h.1, Apart.snoc (l := s :: l) h.2 k⟩

theorem Apart.relast : ∀ {l : List Pc} {q p : Pc}, Apart (l ++ [q]) → q.price = p.price → Apart (l ++ [p])
  | [], _, _, _, _ => trivial
  | [r], q, p, h, k => ⟨by rw [← k]; exact h.1, trivial⟩
  | r :: s :: l, q, p, h, k => ⟨h.1, Apart.relast (l := s :: l) h.2 k⟩

theorem snoc_of_getLast? {α : Type} {l : List α} {q : α} (h : l.getLast? = some q) : l = l.dropLast ++ [q] := by
  obtain ⟨ys, rfl⟩ := List.getLast?_eq_some_iff.1 h
  simp

theorem Runs.addPc {f : Int → Int} {l : List Pc} {a b : Int} {p : Pc} (h : Runs f a b l) (h1 : p.frm = b) (h2 : b < p.til) (h3 : ∀ t, b ≤ t → t < p.til → f t = p.price) : Runs f a p.til (addPc l p) := by
  unfold Tf.addPc
  split
  · rename_i q hq
    have e := snoc_of_getLast? hq
    generalize l.dropLast = l0 at e
    subst e
    by_cases c : q.price = p.price
    · rw [if_pos c]
      obtain ⟨d, c1, c2⟩ := Chain.append h.1
      obtain ⟨g1, g2, g3, g4, g5⟩ := c2
      have g5 : q.til = b := g5
      refine ⟨Chain.snoc (p := ⟨q.frm, p.til, q.price⟩) c1 g1 (by simp; omega) ?_, Apart.relast h.2 rfl⟩
      intro t t1 t2
      by_cases ht : t < q.til
      · exact g4 t t1 ht
      · have := h3 t (by omega) t2
        simp only
        rw [this, c]
    · rw [if_neg c]
      exact ⟨Chain.snoc h.1 h1 h2 h3, Apart.snoc h.2 c⟩
  · rename_i hn
    have : l = [] := by simpa using hn
    subst this
    have e : a = b := h.1
    subst e
    exact ⟨⟨h1, h2, Int.le_refl _, h3, rfl⟩, trivial⟩

theorem merged_runs_aux {f : Int → Int} : ∀ {l out : List Pc} {a b c : Int}, Runs f a b out → Chain f b c l → Runs f a c (l.foldl addPc out)
  | [], out, a, b, c, h, k => by
    have : b = c := k
    subst this
    exact h
  | p :: l, out, a, b, c, h, k => by
    obtain ⟨k1, k2, k3, k4, k5⟩ := k
    exact merged_runs_aux (l := l) (h.addPc k1 k2 k4) k5

theorem merged_runs {f : Int → Int} {l : List Pc} {a b : Int} (h : Chain f a b l) : Runs f a b (merged l) := merged_runs_aux ⟨rfl, trivial⟩ h

/-- Two chains over the same seconds make the same runs. -/
theorem merged_eq {f : Int → Int} {l m : List Pc} {a b : Int} (h : Chain f a b l) (k : Chain f a b m) : merged l = merged m := (merged_runs h).unique (merged_runs k)

/-! ### The first one of the least sums -/
def win (f : Int → Int) (n t : Int) : Int := S f t (t + n)
theorem win_succ (f : Int → Int) {n t : Int} (hn : 0 ≤ n) : win f n (t + 1) = win f n t + f (t + n) - f t := by
  unfold win
  have h1 := S_add f (a := t) (b := t + 1) (c := t + 1 + n) (by omega) (by omega)
  have h2 := S_add f (a := t) (b := t + n) (c := t + 1 + n) (by omega) (by omega)
  have h3 := S_one f t
  have h4 := S_one f (t + n)
  have e : t + n + 1 = t + 1 + n := by omega
  rw [e] at h4
  omega
/-- t is the first one of the least. -/
def First (f : Int → Int) (n a b t : Int) : Prop := a ≤ t ∧ t ≤ b ∧ ∀ s, a ≤ s → s ≤ b → win f n t < win f n s ∨ win f n t = win f n s ∧ t ≤ s

theorem First.unique {f : Int → Int} {n a b t s : Int} (h : First f n a b t) (k : First f n a b s) : t = s := by
  have h1 := h.2.2 s k.1 k.2.1
  have h2 := k.2.2 t h.1 h.2.1
  omega

theorem First.exists (f : Int → Int) (n a : Int) : ∀ (k : Nat), ∃ t, First f n a (a + k) t
  | 0 => ⟨a, Int.le_refl _, by omega, fun s h1 h2 => by
      have : s = a := by omega
      subst this; right; exact ⟨rfl, Int.le_refl _⟩⟩
  | k + 1 => by
    obtain ⟨t, h1, h2, h3⟩ := First.exists f n a k
    by_cases c : win f n (a + (k + 1 : Nat)) < win f n t
    · refine ⟨a + (k + 1 : Nat), by omega, Int.le_refl _, fun s s1 s2 => ?_⟩
      by_cases hs : s ≤ a + k
      · have := h3 s s1 hs; left; omega
      · have : s = a + (k + 1 : Nat) := by omega
        subst this; right; exact ⟨rfl, Int.le_refl _⟩
    · refine ⟨t, h1, by omega, fun s s1 s2 => ?_⟩
      by_cases hs : s ≤ a + k
      · exact h3 s s1 hs
      · have : s = a + (k + 1 : Nat) := by omega
        subst this
        by_cases e : win f n t = win f n (a + (k + 1 : Nat))
        · right; exact ⟨e, by omega⟩
        · left; omega

theorem First.exists' (f : Int → Int) (n : Int) {a b : Int} (hab : a ≤ b) : ∃ t, First f n a b t := by
  obtain ⟨t, h⟩ := First.exists f n a (b - a).toNat
  have : a + ((b - a).toNat : Int) = b := by omega
  rw [this] at h
  exact ⟨t, h⟩

/-- The first one of the least sums lies at an end, or where the price at its beginning or at its end changes. -/
theorem First.at {f : Int → Int} {n a b t : Int} (hn : 0 ≤ n) (h : First f n a b t) : t = a ∨ t = b ∨ f t ≠ f (t - 1) ∨ f (t + n) ≠ f (t + n - 1) := by
  by_cases h1 : t = a
  · exact .inl h1
  by_cases h2 : t = b
  · exact .inr (.inl h2)
  by_cases h3 : f t = f (t - 1)
  · by_cases h4 : f (t + n) = f (t + n - 1)
    · exfalso
      obtain ⟨k1, k2, k3⟩ := h
      have s1 := win_succ f (t := t) hn
      have s2 := win_succ f (t := t - 1) hn
      have e1 : t - 1 + 1 = t := by omega
      have e2 : t - 1 + n = t + n - 1 := by omega
      rw [e1, e2] at s2
      have m1 := k3 (t + 1) (by omega) (by omega)
      have m2 := k3 (t - 1) (by omega) (by omega)
      omega
    · exact .inr (.inr (.inr h4))
  · exact .inr (.inr (.inl h3))

/-! ### Midnights -/
def mids (b : Int) : Nat → Int → List Int
  | 0, _ => []
  | k + 1, t => if t < b then t :: mids b k (t + 86400) else []
def firstMid (z a : Int) : Int := a + (86400 - loc z a % 86400) % 86400
/-- The midnights of a spell (as many rounds as there can be). -/
def midnights (z a b : Int) : List Int := mids b ((b - a).toNat + 1) (firstMid z a)

theorem mids_more (b : Int) : ∀ (k m : Nat) (t : Int), b - t < 86400 * k → b - t < 86400 * m → mids b k t = mids b m t
  | 0, 0, _, _, _ => rfl
  | 0, m + 1, t, h, _ => by simp only [mids]; rw [if_neg (by omega)]
  | k + 1, 0, t, _, h => by simp only [mids]; rw [if_neg (by omega)]
  | k + 1, m + 1, t, h, h' => by
    simp only [mids]
    by_cases c : t < b
    · rw [if_pos c, if_pos c, mids_more b k m _ (by omega) (by omega)]
    · rw [if_neg c, if_neg c]

theorem mids_get (b : Int) : ∀ (k : Nat) (t : Int) (i : Nat) (h : i < (mids b k t).length), (mids b k t)[i] = t + 86400 * i ∧ t + 86400 * i < b
  | 0, _, i, h => by simp [mids] at h
  | k + 1, t, i, h => by
    simp only [mids] at h ⊢
    by_cases c : t < b
    · simp only [if_pos c] at h ⊢
      cases i with
      | zero => simp; omega
      | succ i =>
        simp only [List.length_cons] at h
        have := mids_get b k (t + 86400) i (by omega)
        simp only [List.getElem_cons_succ]
        omega
    · simp only [if_neg c] at h
      simp at h

theorem mids_length (b : Int) : ∀ (k : Nat) (t : Int), b - t < 86400 * k → ((mids b k t).length : Int) = if t < b then (b - t + 86399) / 86400 else 0
  | 0, t, h => by simp only [mids, List.length_nil]; rw [if_neg (by omega)]; rfl
  | k + 1, t, h => by
    simp only [mids]
    by_cases c : t < b
    · rw [if_pos c, if_pos c]
      have := mids_length b k (t + 86400) (by omega)
      simp only [List.length_cons]
      by_cases d : t + 86400 < b
      · rw [if_pos d] at this; omega
      · rw [if_neg d] at this; omega
    · rw [if_neg c, if_neg c]; rfl

theorem firstMid_spec (z a : Int) : a ≤ firstMid z a ∧ firstMid z a < a + 86400 ∧ (firstMid z a + z + 604800) % 86400 = 0 := by
  unfold firstMid loc
  omega

end Go.Proofs.YtbenflnpnohcjaaGreatDoor.Tf
