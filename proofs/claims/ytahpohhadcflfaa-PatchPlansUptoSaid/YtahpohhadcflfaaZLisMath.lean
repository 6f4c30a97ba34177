/- Longest rising rows in a list of whole numbers: plain lists, no program. -/
namespace Go.Proofs.Ytahpohhadcflfaa.LisMath
set_option linter.unusedVariables false

def Rise (s : List Int) : Prop := s.Pairwise (· < ·)
/-- The greatest number that stands beside an element with p. -/
def best (p : Int → Bool) : List Int → List Nat → Nat
  | y :: r, k :: ks => if p y then max k (best p r ks) else best p r ks
  | _, _ => 0
/-- How long the longest one is that begins at each place. -/
def long : List Int → List Nat
  | [] => []
  | x :: r => (best (fun y => decide (x < y)) r (long r) + 1) :: long r
abbrev above (x : Int) : Int → Bool := fun y => decide (x < y)
abbrev bst (p : Int → Bool) (r : List Int) : Nat := best p r (long r)
abbrev all : Int → Bool := fun _ => true
abbrev lis (r : List Int) : Nat := bst all r
def Up (p : Int → Bool) : Prop := ∀ y z, p y = true → y < z → p z = true
theorem up_above (x : Int) : Up (above x) := fun y z h1 h2 => by simp at *; omega
theorem up_all : Up all := fun _ _ _ _ => rfl

theorem long_length : ∀ r, (long r).length = r.length
  | [] => rfl
  | x :: r => by simp [long, long_length r]
theorem bst_nil (p : Int → Bool) : bst p [] = 0 := rfl
theorem bst_cons (p : Int → Bool) (x : Int) (r : List Int) : bst p (x :: r) = if p x then max (bst (above x) r + 1) (bst p r) else bst p r := rfl

theorem bst_le : ∀ (r : List Int) (p : Int → Bool) (s : List Int), s.Sublist r → Rise s → (∀ y ∈ s, p y = true) → s.length ≤ bst p r
  | [], p, s, h, _, _ => by simp [List.sublist_nil.1 h]
  | x :: r, p, s, h, hs, hp => by
    rw [bst_cons]
    cases h with
    | cons _ h =>
      have := bst_le r p s h hs hp
      split <;> omega
    | cons_cons _ h =>
      rename_i s
      have h1 := List.pairwise_cons.1 hs
      have := bst_le r (above x) s h h1.2 (fun y hy => by simpa using h1.1 y hy)
      rw [if_pos (hp x (by simp))]
      simp; omega
theorem bst_ex : ∀ (r : List Int) (p : Int → Bool), Up p → ∃ s, List.Sublist s r ∧ Rise s ∧ (∀ y ∈ s, p y = true) ∧ s.length = bst p r
  | [], p, _ => ⟨[], by simp, .nil, by simp, rfl⟩
  | x :: r, p, hu => by
    rw [bst_cons]
    obtain ⟨s, h1, h2, h3, h4⟩ := bst_ex r p hu
    by_cases hp : p x = true
    · rw [if_pos hp]
      by_cases hm : bst (above x) r + 1 ≤ bst p r
      · exact ⟨s, h1.cons _, h2, h3, by omega⟩
      · obtain ⟨t, t1, t2, t3, t4⟩ := bst_ex r (above x) (up_above x)
        exact ⟨x :: t, t1.cons_cons _, List.pairwise_cons.2 ⟨fun y hy => by simpa using t3 y hy, t2⟩, fun y hy => by
          rcases List.mem_cons.1 hy with rfl | hy
          · exact hp
          · exact hu x y hp (by simpa using t3 y hy), by simp; omega⟩
    · rw [if_neg hp]
      exact ⟨s, h1.cons _, h2, h3, h4⟩
theorem bst_le_length (p : Int → Bool) : ∀ r, bst p r ≤ r.length
  | [] => Nat.le_refl _
  | x :: r => by
    rw [bst_cons]
    have h1 := bst_le_length p r
    have h2 := bst_le_length (above x) r
    simp only [List.length_cons]
    split <;> omega
theorem lis_le {r s : List Int} (h : s.Sublist r) (hs : Rise s) : s.length ≤ lis r := bst_le r all s h hs fun _ _ => rfl
theorem lis_ex (r : List Int) : ∃ s, List.Sublist s r ∧ Rise s ∧ s.length = lis r := by
  obtain ⟨s, h1, h2, _, h4⟩ := bst_ex r all up_all
  exact ⟨s, h1, h2, h4⟩
theorem lis_iff {r q : List Int} (h : ∀ s, List.Sublist s r → Rise s → ∃ t, List.Sublist t q ∧ Rise t ∧ s.length ≤ t.length) : lis r ≤ lis q := by
  obtain ⟨s, h1, h2, h3⟩ := lis_ex r
  obtain ⟨t, t1, t2, t3⟩ := h s h1 h2
  have := lis_le t1 t2
  omega

/-! ### One is picked -/
def fits : Option Int → Int → Bool
  | none, _ => true
  | some y, x => decide (y < x)
theorem up_fits (o : Option Int) : Up (fits o) := by
  cases o with
  | none => exact up_all
  | some y => exact up_above y
def pick : Nat → List Int → List Nat → Nat → Option Int → List Nat
  | i, x :: r, k :: ks, w, o => if k = w ∧ 0 < w ∧ fits o x = true then i :: pick (i + 1) r ks (w - 1) (some x) else pick (i + 1) r ks w o
  | _, _, _, _, _ => []
def longest (xs : List Int) : List Nat := pick 0 xs (long xs) (lis xs) none

theorem pick_zero : ∀ (i : Nat) (r : List Int) (ks : List Nat) (o : Option Int), pick i r ks 0 o = []
  | i, [], ks, o => by unfold pick; rfl
  | i, x :: r, [], o => by unfold pick; rfl
  | i, x :: r, k :: ks, o => by unfold pick; rw [if_neg (by omega)]; exact pick_zero _ _ _ _

/-- What is picked: places that rise, and what stands there. -/
theorem pick_ok : ∀ (r : List Int) (i : Nat) (o : Option Int), 
    (pick i r (long r) (bst (fits o) r) o).length = bst (fits o) r ∧ (∀ j ∈ pick i r (long r) (bst (fits o) r) o, i ≤ j ∧ j < i + r.length ∧ ∀ x, r[j - i]? = some x → fits o x = true) ∧
    (pick i r (long r) (bst (fits o) r) o).Pairwise (fun a b => a < b ∧ ∀ x y, r[a - i]? = some x → r[b - i]? = some y → x < y)
  | [], i, o => ⟨rfl, by simp [pick], by simp [pick]⟩
  | x :: r, i, o => by
    have hb := bst_cons (fits o) x r
    rw [show long (x :: r) = (bst (above x) r + 1) :: long r from rfl]
    unfold pick
    have skip : bst (fits o) (x :: r) = bst (fits o) r →
        (pick (i + 1) r (long r) (bst (fits o) (x :: r)) o).length = bst (fits o) (x :: r) ∧
        (∀ j ∈ pick (i + 1) r (long r) (bst (fits o) (x :: r)) o, i ≤ j ∧ j < i + (x :: r).length ∧ ∀ z, (x :: r)[j - i]? = some z → fits o z = true) ∧
        (pick (i + 1) r (long r) (bst (fits o) (x :: r)) o).Pairwise (fun a b => a < b ∧ ∀ u v, (x :: r)[a - i]? = some u → (x :: r)[b - i]? = some v → u < v) := by
      intro e
      rw [e]
      obtain ⟨h1, h2, h3⟩ := pick_ok r (i + 1) o
      refine ⟨h1, fun j hj => ?_, ?_⟩
      · obtain ⟨a1, a2, a3⟩ := h2 j hj
        refine ⟨by omega, by simp; omega, fun z hz => a3 z ?_⟩
        rw [show j - i = (j - (i + 1)) + 1 by omega, List.getElem?_cons_succ] at hz
        exact hz
      · refine List.Pairwise.imp_of_mem ?_ h3
        intro a b ha hb' hab
        obtain ⟨a1, _⟩ := h2 a ha
        obtain ⟨b1, _⟩ := h2 b hb'
        refine ⟨hab.1, fun u v hu hv => hab.2 u v ?_ ?_⟩
        · rw [show a - i = (a - (i + 1)) + 1 by omega, List.getElem?_cons_succ] at hu; exact hu
        · rw [show b - i = (b - (i + 1)) + 1 by omega, List.getElem?_cons_succ] at hv; exact hv
    by_cases hp : fits o x = true
    · rw [if_pos hp] at hb
      by_cases hk : bst (above x) r + 1 = bst (fits o) (x :: r)
      · rw [if_pos ⟨hk, by omega, hp⟩]
        have hw : bst (fits o) (x :: r) - 1 = bst (fits (some x)) r := by
          have : bst (fits (some x)) r = bst (above x) r := rfl
          omega
        rw [hw]
        obtain ⟨h1, h2, h3⟩ := pick_ok r (i + 1) (some x)
        refine ⟨by simp only [List.length_cons]; omega, fun j hj => ?_, List.pairwise_cons.2 ⟨fun j hj => ?_, ?_⟩⟩
        · rcases List.mem_cons.1 hj with rfl | hj
          · refine ⟨Nat.le_refl _, by simp, fun z hz => ?_⟩
            simp at hz; subst hz; exact hp
          · obtain ⟨a1, a2, a3⟩ := h2 j hj
            refine ⟨by omega, by simp; omega, fun z hz => ?_⟩
            rw [show j - i = (j - (i + 1)) + 1 by omega, List.getElem?_cons_succ] at hz
            exact up_fits o x z hp (by simpa [fits] using a3 z hz)
        · obtain ⟨a1, a2, a3⟩ := h2 j hj
          refine ⟨by omega, fun u v hu hv => ?_⟩
          simp at hu
          subst hu
          rw [show j - i = (j - (i + 1)) + 1 by omega, List.getElem?_cons_succ] at hv
          simpa [fits] using a3 v hv
        · refine List.Pairwise.imp_of_mem ?_ h3
          intro a b ha hb' hab
          obtain ⟨a1, _⟩ := h2 a ha
          obtain ⟨b1, _⟩ := h2 b hb'
          refine ⟨hab.1, fun u v hu hv => hab.2 u v ?_ ?_⟩
          · rw [show a - i = (a - (i + 1)) + 1 by omega, List.getElem?_cons_succ] at hu; exact hu
          · rw [show b - i = (b - (i + 1)) + 1 by omega, List.getElem?_cons_succ] at hv; exact hv
      · rw [if_neg (by omega)]
        exact skip (by omega)
    · rw [if_neg hp] at hb
      rw [if_neg (by simp [hp])]
      exact skip hb

theorem longest_ok (xs : List Int) : (longest xs).length = lis xs ∧ (∀ j ∈ longest xs, j < xs.length) ∧ (longest xs).Pairwise (fun a b => a < b ∧ ∀ x y, xs[a]? = some x → xs[b]? = some y → x < y) := by
  obtain ⟨h1, h2, h3⟩ := pick_ok xs 0 none
  exact ⟨h1, fun j hj => by have := (h2 j hj).2.1; omega, h3⟩

/-! ### None can be put between -/
theorem places_sub {xs : List Int} {l : List Nat} (h1 : l.Pairwise (· < ·)) (h2 : ∀ j ∈ l, j < xs.length) : ∃ s, List.Sublist s xs ∧ s = l.map fun j => xs.getD j 0 := by
  have h := List.map_getElem_sublist (l := xs) (is := l.pmap (fun j hj => (⟨j, hj⟩ : Fin xs.length)) h2) (by
    rw [List.pairwise_pmap]
    exact h1.imp fun hab _ _ => hab)
  refine ⟨_, h, ?_⟩
  rw [List.map_pmap]
  clear h h1
  induction l with
  | nil => rfl
  | cons a l ih =>
    simp only [List.pmap, List.map_cons]
    rw [ih (fun j hj => h2 j (List.mem_cons_of_mem _ hj))]
    simp [List.getD, List.getElem?_eq_getElem (h2 a (by simp))]

theorem rise_places {xs : List Int} {l : List Nat} (h2 : ∀ j ∈ l, j < xs.length) (h : l.Pairwise (fun a b => a < b ∧ ∀ x y, xs[a]? = some x → xs[b]? = some y → x < y)) : l.length ≤ lis xs := by
  obtain ⟨s, h3, rfl⟩ := places_sub (h.imp fun h => h.1) h2
  have h4 : Rise (l.map fun j => xs.getD j 0) := by
    unfold Rise
    rw [List.pairwise_map]
    refine List.Pairwise.imp_of_mem ?_ h
    intro a b ha hb hab
    have ga := List.getElem?_eq_getElem (h2 a ha)
    have gb := List.getElem?_eq_getElem (h2 b hb)
    have := hab.2 _ _ ga gb
    simp [List.getD, ga, gb, this]
  simpa using lis_le h3 h4

/-- An element more between those that are picked would make them too many. -/
theorem no_between (xs : List Int) (i k : Nat) (hi : i ≤ (longest xs).length) (hk : k < xs.length) (z : Int) (hz : xs[k]? = some z)
    (hlo : ∀ a, (longest xs)[i - 1]? = some a → 0 < i → a < k) (hhi : ∀ a, (longest xs)[i]? = some a → k < a) :
    ¬ ((i = 0 ∨ ∃ a x, (longest xs)[i - 1]? = some a ∧ xs[a]? = some x ∧ x < z) ∧ (i = (longest xs).length ∨ ∃ a x, (longest xs)[i]? = some a ∧ xs[a]? = some x ∧ z < x)) := by
  rintro ⟨hA, hB⟩
  obtain ⟨h1, h2, h3⟩ := longest_ok xs
  generalize longest xs = l at *
  have hsplit : l = l.take i ++ l.drop i := (List.take_append_drop i l).symm
  rw [hsplit] at h3
  obtain ⟨p1, p2, p3⟩ := List.pairwise_append.1 h3
  -- what lies ahead of k, what behind
  have hlow : ∀ a ∈ l.take i, a < k ∧ ∀ x, xs[a]? = some x → x < z := by
    intro a ha
    rcases hA with rfl | ⟨b, y, hb, hy, hyz⟩
    · simp at ha
    · have hi0 : 0 < i := by rcases Nat.eq_zero_or_pos i with rfl | h; · simp at ha
                             · exact h
      have hbk := hlo b hb hi0
      obtain ⟨n, hn, rfl⟩ := List.getElem_of_mem ha
      have hn' : n < i := by simp at hn; omega
      by_cases he : n = i - 1
      · have hx : (l.take i)[n] = b := by
          rw [List.getElem_take]
          have : l[i - 1]? = some l[n] := by subst he; exact List.getElem?_eq_getElem _
          rw [hb] at this
          exact (Option.some.inj this).symm
        rw [hx]
        exact ⟨hbk, fun x hx => by rw [hy] at hx; cases hx; exact hyz⟩
      · have hlt : i - 1 < (l.take i).length := by simp at hn ⊢; omega
        have hx : (l.take i)[i - 1] = b := by
          rw [List.getElem_take]
          have : l[i - 1]? = some l[i - 1] := List.getElem?_eq_getElem _
          rw [hb] at this
          exact (Option.some.inj this).symm
        have := List.pairwise_iff_getElem.1 p1 n (i - 1) hn hlt (by omega)
        rw [hx] at this
        exact ⟨by omega, fun x hx => by have := this.2 x y hx hy; omega⟩
  have hhigh : ∀ a ∈ l.drop i, k < a ∧ ∀ x, xs[a]? = some x → z < x := by
    intro a ha
    rcases hB with rfl | ⟨b, y, hb, hy, hyz⟩
    · simp at ha
    · have hbk := hhi b hb
      obtain ⟨n, hn, rfl⟩ := List.getElem_of_mem ha
      have hx : (l.drop i)[0]? = some b := by rw [List.getElem?_drop]; exact hb
      have h0 : 0 < (l.drop i).length := by omega
      have hx' : (l.drop i)[0] = b := by rw [List.getElem?_eq_getElem h0] at hx; exact Option.some.inj hx
      by_cases he : n = 0
      · subst he
        rw [hx']
        exact ⟨hbk, fun x hx => by rw [hy] at hx; cases hx; exact hyz⟩
      · have := List.pairwise_iff_getElem.1 p2 0 n h0 hn (by omega)
        rw [hx'] at this
        exact ⟨by omega, fun x hx => by have := this.2 y x hy hx; omega⟩
  have hnew := rise_places (xs := xs) (l := l.take i ++ k :: l.drop i) (by
    intro j hj
    rcases List.mem_append.1 hj with hj | hj
    · exact h2 j (List.mem_of_mem_take hj)
    · rcases List.mem_cons.1 hj with rfl | hj
      · exact hk
      · exact h2 j (List.mem_of_mem_drop hj)) (List.pairwise_append.2 ⟨p1, List.pairwise_cons.2 ⟨fun a ha => ⟨(hhigh a ha).1, fun x y hx hy => by
        rw [hz] at hx; cases hx; exact (hhigh a ha).2 y hy⟩, p2⟩, fun a ha b hb => by
        rcases List.mem_cons.1 hb with rfl | hb
        · exact ⟨(hlow a ha).1, fun x y hx hy => by rw [hz] at hy; cases hy; exact (hlow a ha).2 x hx⟩
        · exact p3 a ha b hb⟩)
  simp at hnew
  omega

theorem lis_more (xs : List Int) (m : Int) : lis (xs ++ [m]) = lis xs ∨ lis (xs ++ [m]) = lis xs + 1 := by
  have h1 : lis xs ≤ lis (xs ++ [m]) := lis_iff fun s h hs => ⟨s, h.trans (List.sublist_append_left _ _), hs, Nat.le_refl _⟩
  have h2 : lis (xs ++ [m]) ≤ lis xs + 1 := by
    obtain ⟨s, s1, s2, s3⟩ := lis_ex (xs ++ [m])
    obtain ⟨a, b, rfl, ha, hb⟩ := List.sublist_append_iff.1 s1
    have := lis_le ha (List.pairwise_append.1 s2).1
    have hb' := hb.length_le
    simp at hb' s3
    omega
  omega

/-! ### Piles -/
def put (x : Int) : List Int → List Int
  | [] => [x]
  | p :: ps => if p ≤ x then x :: ps else p :: put x ps
def pos (x : Int) : List Int → Nat
  | [] => 0
  | p :: ps => if p ≤ x then 0 else pos x ps + 1
def Falls (P : List Int) : Prop := P.Pairwise (· > ·)
theorem pos_le (x : Int) : ∀ P, pos x P ≤ P.length
  | [] => Nat.le_refl _
  | p :: ps => by have := pos_le x ps; simp only [pos]; split <;> simp <;> omega
theorem put_mem {x y : Int} : ∀ {P : List Int}, y ∈ put x P → y = x ∨ y ∈ P
  | [], h => by simp [put] at h; exact .inl h
  | p :: ps, h => by
    simp only [put] at h
    split at h
    · rcases List.mem_cons.1 h with rfl | h
      · exact .inl rfl
      · exact .inr (by simp [h])
    · rcases List.mem_cons.1 h with rfl | h
      · exact .inr (by simp)
      · rcases put_mem h with h | h
        · exact .inl h
        · exact .inr (by simp [h])
theorem put_falls (x : Int) : ∀ {P : List Int}, Falls P → Falls (put x P)
  | [], _ => by simp [put, Falls]
  | p :: ps, h => by
    obtain ⟨h1, h2⟩ := List.pairwise_cons.1 h
    simp only [put]
    split
    · exact List.pairwise_cons.2 ⟨fun y hy => by have := h1 y hy; omega, h2⟩
    · refine List.pairwise_cons.2 ⟨fun y hy => ?_, put_falls x h2⟩
      rcases put_mem hy with rfl | hy
      · omega
      · exact h1 y hy
theorem pos_put (x y : Int) : ∀ {P : List Int}, Falls P → pos y (put x P) = if y < x then max (pos x P + 1) (pos y P) else pos y P
  | [], _ => by simp only [put, pos]; split <;> split <;> omega
  | p :: ps, h => by
    obtain ⟨h1, h2⟩ := List.pairwise_cons.1 h
    have h3 : p ≤ y → pos y ps = 0 := fun hy => by
      cases ps with
      | nil => rfl
      | cons q qs => have := h1 q (by simp); simp only [pos]; rw [if_pos (by omega)]
    have ih := pos_put x y h2
    simp only [put]
    split
    · simp only [pos]
      by_cases h5 : p ≤ y
      · have := h3 h5
        split <;> split <;> (try split) <;> omega
      · split <;> split <;> (try split) <;> omega
    · simp only [pos, ih]
      split <;> split <;> (try split) <;> omega
theorem len_put (x : Int) : ∀ (P : List Int), (put x P).length = max (pos x P + 1) P.length
  | [] => rfl
  | p :: ps => by
    have := len_put x ps
    simp only [put, pos]
    split
    · simp
    · simp [this]

/-- The piles behind a list, read from its end. -/
def piles : List Int → List Int
  | [] => []
  | x :: r => put x (piles r)
theorem piles_falls : ∀ r, Falls (piles r)
  | [] => .nil
  | x :: r => put_falls x (piles_falls r)
theorem piles_pos : ∀ (r : List Int) (y : Int), pos y (piles r) = bst (above y) r
  | [], y => rfl
  | x :: r, y => by
    rw [bst_cons, piles, pos_put x y (piles_falls r), piles_pos r, piles_pos r]
    by_cases h : y < x
    · rw [if_pos h, if_pos (by simpa using h)]
    · rw [if_neg h, if_neg (by simpa using h)]
theorem piles_len : ∀ (r : List Int), (piles r).length = lis r
  | [] => rfl
  | x :: r => by rw [show lis (x :: r) = bst all (x :: r) from rfl, bst_cons, piles, len_put, piles_pos, piles_len r]; simp

/-- Where an element goes, by halving. -/
theorem pos_spec (x : Int) : ∀ {P : List Int}, Falls P → ∀ (k : Nat) p, P[k]? = some p → (p ≤ x ↔ pos x P ≤ k)
  | [], _, k, p, h => by simp at h
  | q :: qs, hf, k, p, h => by
    obtain ⟨h1, h2⟩ := List.pairwise_cons.1 hf
    cases k with
    | zero =>
      simp at h; subst h
      simp only [pos]
      split <;> omega
    | succ k =>
      simp at h
      have ih := pos_spec x h2 k p h
      have hm := h1 p (List.mem_of_getElem? h)
      simp only [pos]
      split
      · omega
      · omega
theorem put_eq (x : Int) : ∀ (P : List Int), put x P = if pos x P = P.length then P ++ [x] else P.set (pos x P) x
  | [] => rfl
  | p :: ps => by
    have ih := put_eq x ps
    simp only [put, pos]
    split
    · simp
    · rw [ih]
      by_cases h : pos x ps = ps.length
      · simp [h]
      · simp [h]

/-! ### Turned round, each with the other sign -/
def turn (xs : List Int) : List Int := (xs.map fun x => -x).reverse
theorem turn_turn (xs : List Int) : turn (turn xs) = xs := by simp [turn, Function.comp_def]
theorem turn_rise {s : List Int} (h : Rise s) : Rise (turn s) := by
  unfold Rise turn at *
  rw [List.pairwise_reverse, List.pairwise_map]
  exact h.imp fun hab => by omega
theorem turn_sub {s xs : List Int} (h : s.Sublist xs) : (turn s).Sublist (turn xs) := (h.map _).reverse
theorem lis_turn (xs : List Int) : lis (turn xs) = lis xs := by
  have h : ∀ xs, lis xs ≤ lis (turn xs) := fun xs => lis_iff fun s h1 h2 => ⟨turn s, turn_sub h1, turn_rise h2, by simp [turn]⟩
  have h1 := h xs
  have h2 := h (turn xs)
  rw [turn_turn] at h2
  omega

/-! ### Keys: the same in both rows -/
section
variable {K : Type} [DecidableEq K]
/-- Where a key stands. -/
def place (k : K) : List K → Option Nat
  | [] => none
  | q :: r => if q = k then some 0 else (place k r).map (· + 1)
def common (olds news : List K) : List Int := news.filterMap fun k => (place k olds).map fun i : Nat => (i : Int)
theorem place_some {k : K} : ∀ {l : List K} {i : Nat}, place k l = some i → l[i]? = some k
  | [], i, h => by simp [place] at h
  | q :: r, i, h => by
    simp only [place] at h
    split at h
    · cases h; rename_i e; simp [e]
    · obtain ⟨j, hj, rfl⟩ := Option.map_eq_some_iff.1 h
      simpa using place_some hj
theorem place_get {k : K} : ∀ {l : List K} {i : Nat}, l.Nodup → l[i]? = some k → place k l = some i
  | [], i, _, h => by simp at h
  | q :: r, i, hn, h => by
    obtain ⟨h1, h2⟩ := List.nodup_cons.1 hn
    cases i with
    | zero => simp at h; simp [place, h]
    | succ i =>
      simp at h
      have hne : q ≠ k := fun e => h1 (e ▸ List.mem_of_getElem? h)
      simp [place, hne, place_get h2 h]
theorem place_none {k : K} {l : List K} : place k l = none ↔ k ∉ l := by
  induction l with
  | nil => simp [place]
  | cons q r ih =>
    simp only [place]
    split
    · rename_i e; simp [e]
    · rename_i e; simp [ih, Ne.symm e]

/-- A rising row of places is a row of keys that stand so in both. -/
theorem common_keys {olds news : List K} {s : List Int} (h : s.Sublist (common olds news)) (hs : Rise s) : ∃ c, List.Sublist c olds ∧ List.Sublist c news ∧ c.length = s.length := by
  obtain ⟨c, hc1, hc2⟩ := List.sublist_filterMap_iff.1 h
  -- keys with places alone
  have key : ∀ (c : List K) (s : List Int), s = c.filterMap (fun k => (place k olds).map fun i : Nat => (i : Int)) → ∃ d, List.Sublist d c ∧ d.map (fun k => (place k olds).map fun i : Nat => (i : Int)) = s.map some := by
    intro c
    induction c with
    | nil => intro s hs; subst hs; exact ⟨[], by simp, rfl⟩
    | cons k c ih =>
      intro s hs
      rw [List.filterMap_cons] at hs
      split at hs
      · obtain ⟨d, d1, d2⟩ := ih s hs
        exact ⟨d, d1.cons _, d2⟩
      · rename_i b hb
        subst hs
        obtain ⟨d, d1, d2⟩ := ih _ rfl
        exact ⟨k :: d, d1.cons_cons _, by simp only [List.map_cons, d2, hb]⟩
  obtain ⟨d, d1, d2⟩ := key c s hc2
  have hlen : d.length = s.length := by have := congrArg List.length d2; simpa using this
  refine ⟨d, ?_, d1.trans hc1, hlen⟩
  -- in the old row: their places rise
  have hget : ∀ (j : Nat) k x, d[j]? = some k → s[j]? = some x → ∃ i : Nat, x = i ∧ olds[i]? = some k := by
    intro j k x hk hx
    have h3 : (d.map (fun k => (place k olds).map fun i : Nat => (i : Int)))[j]? = (s.map some)[j]? := by rw [d2]
    rw [List.getElem?_map, List.getElem?_map, hk, hx] at h3
    simp only [Option.map_some, Option.some.injEq] at h3
    obtain ⟨i, hi, h4⟩ := Option.map_eq_some_iff.1 h3
    exact ⟨i, h4.symm, place_some hi⟩
  have hlt : ∀ x ∈ s.map Int.toNat, x < olds.length := by
    intro x hx
    obtain ⟨y, hy, rfl⟩ := List.mem_map.1 hx
    obtain ⟨j, hj⟩ := List.getElem?_of_mem hy
    have hjl := (List.getElem?_eq_some_iff.1 hj).1
    obtain ⟨i, rfl, hi⟩ := hget j _ y (List.getElem?_eq_getElem (by omega)) hj
    simpa using (List.getElem?_eq_some_iff.1 hi).1
  have hpw : (s.map Int.toNat).Pairwise (· < ·) := by
    rw [List.pairwise_map]
    refine List.Pairwise.imp_of_mem ?_ hs
    intro a b ha hb hab
    have pos : ∀ y ∈ s, 0 ≤ y := by
      intro y hy
      obtain ⟨j, hj⟩ := List.getElem?_of_mem hy
      have hjl := (List.getElem?_eq_some_iff.1 hj).1
      obtain ⟨i, rfl, hi⟩ := hget j _ y (List.getElem?_eq_getElem (by omega)) hj
      omega
    have := pos a ha
    omega
  have hsub := List.map_getElem_sublist (l := olds) (is := (s.map Int.toNat).pmap (fun j hj => (⟨j, hj⟩ : Fin olds.length)) hlt) (by
    rw [List.pairwise_pmap]
    exact hpw.imp fun hab _ _ => hab)
  have e : d = ((s.map Int.toNat).pmap (fun j hj => (⟨j, hj⟩ : Fin olds.length)) hlt).map (fun x => olds[x]) := by
    apply List.ext_getElem
    · simp [hlen]
    · intro j hj hj2
      simp only [List.map_pmap, List.getElem_pmap, List.getElem_map]
      have hjs : j < s.length := by omega
      obtain ⟨i, hi1, hi2⟩ := hget j d[j] s[j] (List.getElem?_eq_getElem hj) (List.getElem?_eq_getElem hjs)
      have e2 : s[j].toNat = i := by omega
      have h5 := (List.getElem?_eq_some_iff.1 hi2).2
      simp only [Fin.getElem_fin, e2, h5]
  rw [e]
  exact hsub
theorem keys_common {olds news c : List K} (hn : olds.Nodup) (h1 : c.Sublist olds) (h2 : c.Sublist news) : ∃ s, List.Sublist s (common olds news) ∧ Rise s ∧ s.length = c.length := by
  refine ⟨common olds c, h2.filterMap _, ?_, ?_⟩
  · obtain ⟨is, rfl, h3⟩ := List.sublist_eq_map_getElem h1
    unfold common Rise
    have e : (is.map fun x => olds[x]).filterMap (fun k => (place k olds).map fun i : Nat => (i : Int)) = is.map fun x : Fin olds.length => ((x.val : Nat) : Int) := by
      rw [List.filterMap_map]
      have : (fun k => (place k olds).map fun i : Nat => (i : Int)) ∘ (fun x : Fin olds.length => olds[x]) = fun x : Fin olds.length => some ((x.val : Nat) : Int) := by
        funext x
        simp only [Function.comp]
        have := place_get hn (List.getElem?_eq_getElem x.2)
        simp only [Fin.getElem_fin, this, Option.map_some]
      rw [this]
      simp
    rw [e, List.pairwise_map]
    exact h3.imp fun hab => by have : (_ : Nat) < _ := hab; omega
  · have : ∀ l : List K, (∀ k ∈ l, k ∈ olds) → (common olds l).length = l.length := by
      intro l
      induction l with
      | nil => intro _; rfl
      | cons k l ih =>
        intro h
        unfold common at *
        rw [List.filterMap_cons]
        have hk := h k (by simp)
        cases hp : place k olds with
        | none => exact absurd hk (place_none.1 hp)
        | some i => simp [ih fun k hk => h k (by simp [hk])]
    exact this c fun k hk => h1.subset hk
theorem lis_common {olds news : List K} (ho : olds.Nodup) (hn : news.Nodup) : lis (common olds news) = lis (common news olds) := by
  have h : ∀ {a b : List K}, b.Nodup → lis (common a b) ≤ lis (common b a) := fun hb => lis_iff fun s h1 h2 => by
    obtain ⟨c, c1, c2, c3⟩ := common_keys h1 h2
    obtain ⟨t, t1, t2, t3⟩ := keys_common hb c2 c1
    exact ⟨t, t1, t2, by omega⟩
  have h1 := h (a := olds) (b := news) hn
  have h2 := h (a := news) (b := olds) ho
  omega
theorem nodup_len {a : List K} (ha : a.Nodup) : ∀ {b : List K}, (∀ k ∈ a, k ∈ b) → a.length ≤ b.length := by
  induction a with
  | nil => intro b _; simp
  | cons k a ih =>
    intro b h
    obtain ⟨h1, h2⟩ := List.nodup_cons.1 ha
    have hk := h k (by simp)
    have := ih h2 (b := b.erase k) fun q hq => (List.mem_erase_of_ne (fun e => by subst e; exact h1 hq)).2 (h q (by simp [hq]))
    rw [List.length_erase_of_mem hk] at this
    have := List.length_pos_of_mem hk
    simp; omega
theorem len_common_le {olds news : List K} : (common olds news).length ≤ news.length := List.length_filterMap_le _ _
theorem len_common {olds news : List K} (ho : olds.Nodup) (hn : news.Nodup) : (common olds news).length = (common news olds).length := by
  -- as many as stand in both
  have e : ∀ (a b : List K), (common a b).length = (b.filter fun k => decide (k ∈ a)).length := by
    intro a b
    induction b with
    | nil => rfl
    | cons k b ih =>
      unfold common at *
      rw [List.filterMap_cons, List.filter_cons]
      cases hp : place k a with
      | none => simp [place_none.1 hp, ih]
      | some i =>
        have : k ∈ a := Classical.byContradiction fun hc => by rw [place_none.2 hc] at hp; cases hp
        simp [this, ih]
  have h : ∀ (a b : List K), a.Nodup → b.Nodup → (a.filter fun k => decide (k ∈ b)).length ≤ (b.filter fun k => decide (k ∈ a)).length := by
    intro a b ha hb
    have h1 : (a.filter fun k => decide (k ∈ b)).Nodup := ha.filter _
    refine nodup_len h1 ?_
    intro k hk
    simp at hk ⊢
    exact ⟨hk.2, hk.1⟩
  rw [e, e]
  have := h olds news ho hn
  have := h news olds hn ho
  omega
theorem common_self {olds : List K} (ho : olds.Nodup) : common olds olds = (List.range olds.length).map fun i : Nat => (i : Int) := by
  unfold common
  apply List.ext_getElem?
  intro i
  have e : olds.filterMap (fun k => (place k olds).map fun i : Nat => (i : Int)) = olds.map fun k => ((((place k olds).getD 0 : Nat)) : Int) := by
    have : ∀ l : List K, (∀ k ∈ l, k ∈ olds) → l.filterMap (fun k => (place k olds).map fun i : Nat => (i : Int)) = l.map fun k => ((((place k olds).getD 0 : Nat)) : Int) := by
      intro l
      induction l with
      | nil => intro _; rfl
      | cons k l ih =>
        intro h
        rw [List.filterMap_cons]
        cases hp : place k olds with
        | none => exact absurd (h k (by simp)) (place_none.1 hp)
        | some i => simp [hp, ih fun k hk => h k (by simp [hk])]
    exact this olds fun _ h => h
  rw [e, List.getElem?_map, List.getElem?_map]
  by_cases hi : i < olds.length
  · rw [List.getElem?_eq_getElem hi, List.getElem?_range hi]
    simp only [Option.map_some]
    rw [place_get ho (List.getElem?_eq_getElem hi)]
    rfl
  · rw [List.getElem?_eq_none (by omega), List.getElem?_eq_none (by simp; omega)]
    rfl
theorem lis_range (n : Nat) : lis ((List.range n).map fun i : Nat => (i : Int)) = n := by
  have h1 := lis_le (List.Sublist.refl ((List.range n).map fun i : Nat => (i : Int))) (by
    unfold Rise
    rw [List.pairwise_map]
    exact List.pairwise_lt_range.imp fun h => by omega)
  have h2 := bst_le_length all ((List.range n).map fun i : Nat => (i : Int))
  simp at h1 h2
  exact Nat.le_antisymm h2 h1
theorem lis_pos {xs : List Int} (h : xs ≠ []) : 0 < lis xs := by
  cases xs with
  | nil => exact absurd rfl h
  | cons x r => rw [show lis (x :: r) = bst all (x :: r) from rfl, bst_cons]; simp; omega
end
end Go.Proofs.Ytahpohhadcflfaa.LisMath
