/- Plans: plain lists, no program. -/
import Derived.Test.YtahpohhadcflfaaZPatB
namespace Go.Abs
open Go Go.Proofs Go.Proofs.Ytahpohhadcflfaa.LisMath
set_option linter.unusedVariables false
set_option linter.unusedSimpArgs false

/-! ### Bytes in order -/
theorem less_irrefl : ∀ a : List UInt8, Op.bytesLess a a = false
  | [] => rfl
  | x :: a => by simp [Op.bytesLess, less_irrefl a]
theorem less_trans : ∀ {a b c : List UInt8}, Op.bytesLess a b = true → Op.bytesLess b c = true → Op.bytesLess a c = true
  | _, _, [], _, h => by simp [Op.bytesLess] at h
  | _, [], _ :: _, h, _ => by simp [Op.bytesLess] at h
  | [], _ :: _, _ :: _, _, _ => rfl
  | x :: a, y :: b, z :: c, h1, h2 => by
    simp only [Op.bytesLess, Bool.or_eq_true, decide_eq_true_eq, Bool.and_eq_true, beq_iff_eq] at h1 h2 ⊢
    rcases h1 with h1 | ⟨rfl, h1⟩
    · rcases h2 with h2 | ⟨rfl, h2⟩
      · exact .inl (UInt8.lt_trans h1 h2)
      · exact .inl h1
    · rcases h2 with h2 | ⟨rfl, h2⟩
      · exact .inl h2
      · exact .inr ⟨rfl, less_trans h1 h2⟩
/-- The names rise from a place on. -/
def RiseF (l : List Attr) (k : Nat) : Prop := ∀ j x y, k ≤ j + 1 → l[j]? = some x → l[j + 1]? = some y → Op.bytesLess x.name y.name = true
def names (l : List Attr) : List (List UInt8) := l.map Attr.name
theorem rise_pair : ∀ {l : List Attr}, RiseF l 1 → (names l).Pairwise fun x y => Op.bytesLess x y = true
  | [], _ => List.Pairwise.nil
  | [x], _ => by simp [names]
  | x :: y :: r, h => by
    have ih := rise_pair (l := y :: r) fun j a b _ ha hb => h (j + 1) a b (by omega) (by simpa using ha) (by simpa using hb)
    have h0 : Op.bytesLess x.name y.name = true := h 0 x y (by omega) rfl rfl
    simp only [names, List.map_cons] at ih ⊢
    refine List.pairwise_cons.2 ⟨fun z hz => ?_, ih⟩
    rcases List.mem_cons.1 hz with rfl | hz
    · exact h0
    · exact less_trans h0 ((List.pairwise_cons.1 ih).1 z hz)
theorem rise_nodup {l : List Attr} (h : RiseF l 1) : (names l).Nodup := (rise_pair h).imp fun {a b} hab e => by subst e; rw [less_irrefl] at hab; cases hab
/-! ### Attributes that differ -/
def lookA (n : List UInt8) : List Attr → Option (List UInt8)
  | [] => none
  | x :: r => if x.name = n then some x.value else lookA n r
theorem lookA_none {n : List UInt8} : ∀ {l : List Attr}, lookA n l = none ↔ n ∉ names l
  | [] => by simp [lookA, names]
  | x :: r => by
    have := lookA_none (n := n) (l := r)
    simp only [lookA, names, List.map_cons, List.mem_cons] at this ⊢
    by_cases h : x.name = n
    · simp [h]
    · simp [h, this, Ne.symm h]
theorem lookA_some {x : Attr} : ∀ {l : List Attr}, (names l).Nodup → (lookA x.name l = some x.value ↔ x ∈ l)
  | [], _ => by simp [lookA]
  | y :: r, h => by
    simp only [names, List.map_cons, List.nodup_cons] at h
    have ih := lookA_some (x := x) (l := r) h.2
    simp only [lookA, List.mem_cons]
    by_cases e : y.name = x.name
    · rw [if_pos e]
      constructor
      · intro hv
        left
        cases x; cases y; simp_all
      · rintro (rfl | hm)
        · rfl
        · exact absurd (List.mem_map.2 ⟨x, hm, e.symm⟩) h.1
    · rw [if_neg e, ih]
      constructor
      · exact .inr
      · rintro (rfl | hm)
        · exact absurd rfl e
        · exact hm
def stepD (a : List Attr) (x : Attr) : Int := match lookA x.name a with | none => 1 | some v => if v = x.value then -1 else 0
def sumI : List Int → Int
  | [] => 0
  | x :: r => x + sumI r
theorem sumI_app (a : List Int) : ∀ b, sumI (a ++ b) = sumI a + sumI b := by
  induction a with
  | nil => intro b; simp [sumI]
  | cons x a ih => intro b; simp only [List.cons_append, sumI, ih]; omega
def differ (a b : List Attr) : Int := a.length + sumI (b.map (stepD a))
def lackA (b : List Attr) (x : Attr) : Int := if lookA x.name b = some x.value then 0 else 1
def gainA (a : List Attr) (x : Attr) : Int := if lookA x.name a = none then 1 else 0
def attrsD (a b : List Attr) : Int := sumI (a.map (lackA b)) + sumI (b.map (gainA a))
theorem sum_bound {α : Type} {f : α → Int} {lo hi : Int} (h : ∀ x, lo ≤ f x ∧ f x ≤ hi) : ∀ l : List α, l.length * lo ≤ sumI (l.map f) ∧ sumI (l.map f) ≤ l.length * hi
  | [] => by simp [sumI]
  | x :: l => by
    have := sum_bound h l
    have := h x
    simp only [List.map_cons, sumI, List.length_cons, Int.natCast_add, Int.add_mul]
    omega
theorem stepD_bound (a : List Attr) (x : Attr) : -1 ≤ stepD a x ∧ stepD a x ≤ 1 := by 
  unfold stepD
  split
  · omega
  · split <;> omega
theorem lackA_bound (a : List Attr) (x : Attr) : 0 ≤ lackA a x ∧ lackA a x ≤ 1 := by unfold lackA; split <;> omega
theorem gainA_bound (a : List Attr) (x : Attr) : 0 ≤ gainA a x ∧ gainA a x ≤ 1 := by unfold gainA; split <;> omega
theorem lack_sum {b : List Attr} (hb : (names b).Nodup) : ∀ a : List Attr, sumI (a.map (lackA b)) = a.length - ((a.filter fun x => decide (x ∈ b)).length : Nat)
  | [] => by simp [sumI]
  | x :: a => by
    have ih := lack_sum hb a
    simp only [List.map_cons, sumI, ih, List.length_cons, lackA, lookA_some hb, List.filter_cons, decide_eq_true_eq]
    split
    · simp only [List.length_cons]; omega
    · omega
theorem step_sum {a : List Attr} (ha : (names a).Nodup) : ∀ b : List Attr, sumI (b.map (stepD a)) = sumI (b.map (gainA a)) - ((b.filter fun x => decide (x ∈ a)).length : Nat)
  | [] => by simp [sumI]
  | x :: b => by
    have ih := step_sum ha b
    have hs := lookA_some (x := x) ha
    simp only [List.map_cons, sumI, ih, List.filter_cons, decide_eq_true_eq, stepD, gainA]
    cases hl : lookA x.name a with
    | none =>
      have : x ∉ a := fun h => by rw [hs.2 h] at hl; cases hl
      simp only [if_true, if_neg this]; omega
    | some v =>
      by_cases hv : v = x.value
      · subst hv
        have : x ∈ a := hs.1 hl
        simp only [if_true, if_pos this, List.length_cons]
        simp; omega
      · have : x ∉ a := fun h => by rw [hs.2 h] at hl; cases hl; exact hv rfl
        simp [hv, this]
theorem nodup_of_map {α β : Type} (f : α → β) : ∀ {l : List α}, (l.map f).Nodup → l.Nodup
  | [], _ => List.nodup_nil
  | x :: l, h => by
    simp only [List.map_cons, List.nodup_cons] at h
    exact List.nodup_cons.2 ⟨fun hm => h.1 (List.mem_map.2 ⟨x, hm, rfl⟩), nodup_of_map f h.2⟩
theorem nodup_of_names {l : List Attr} (h : (names l).Nodup) : l.Nodup := nodup_of_map _ h
theorem filter_len {K : Type} [DecidableEq K] {a b : List K} (ha : a.Nodup) (hb : b.Nodup) : (a.filter fun x => decide (x ∈ b)).length = (b.filter fun x => decide (x ∈ a)).length := by
  have h1 := nodup_len (ha.filter fun x => decide (x ∈ b)) (b := b.filter fun x => decide (x ∈ a)) (by intro k hk; simp [List.mem_filter] at hk ⊢; exact ⟨hk.2, hk.1⟩)
  have h2 := nodup_len (hb.filter fun x => decide (x ∈ a)) (b := a.filter fun x => decide (x ∈ b)) (by intro k hk; simp [List.mem_filter] at hk ⊢; exact ⟨hk.2, hk.1⟩)
  omega
theorem differ_eq {a b : List Attr} (ha : (names a).Nodup) (hb : (names b).Nodup) : differ a b = attrsD a b := by
  have := filter_len (nodup_of_names ha) (nodup_of_names hb)
  simp only [differ, attrsD, lack_sum hb, step_sum ha, this]
  omega
theorem attrsD_bound (a b : List Attr) : 0 ≤ attrsD a b ∧ attrsD a b ≤ a.length + b.length := by
  have h1 := sum_bound (lackA_bound b) a
  have h2 := sum_bound (gainA_bound a) b
  unfold attrsD
  omega

/-! ### What may be -/
def zeroK : Key := ⟨0, 0, []⟩
def formed (o : Ori) : Bool := decide (0 ≤ o.node) && (decide (0 ≤ o.loops) && (decide (o.loops ≤ 8) && (o.keys.drop o.loops.toNat).all fun k => decide (k = zeroK)))
theorem formed_n {o : Ori} (h : o.node < 0) : formed o = false := by unfold formed; rw [decide_eq_false (by omega)]; rfl
theorem formed_l {o : Ori} (h : o.loops < 0) : formed o = false := by unfold formed; rw [decide_eq_false (p := 0 ≤ o.loops) (by omega)]; simp
theorem formed_g {o : Ori} (h : 8 < o.loops) : formed o = false := by unfold formed; rw [decide_eq_false (p := o.loops ≤ 8) (by omega)]; simp
theorem formed_t {o : Ori} (h1 : ¬ o.node < 0) (h2 : ¬ o.loops < 0) (h3 : ¬ o.loops > 8) : formed o = (o.keys.drop o.loops.toNat).all fun k => decide (k = zeroK) := by
  unfold formed; rw [decide_eq_true (by omega), decide_eq_true (by omega), decide_eq_true (by omega)]; rfl
def oris (l : List Spot) : List Ori := l.map Spot.ori
def loris (l : List Lp) : List Ori := l.map Lp.ori
/-- May a spot stand behind these? -/
structure SpotOk (pre : List Spot) (s : Spot) : Prop where
  low : -1 ≤ s.parent
  high : s.parent < pre.length
  tag : 0 ≤ s.parent → ∀ p, pre[s.parent.toNat]? = some p → p.tag ≠ []
  form : formed s.ori = true
  text : ¬ (s.tag ≠ [] ∧ s.text ≠ [])
  bare : ¬ (s.tag = [] ∧ s.attrs ≠ [])
  rise : RiseF s.attrs 1
  new : s.ori ∉ oris pre
def SpotsOk (ss : List Spot) : Prop := ∀ i s, ss[i]? = some s → SpotOk (ss.take i) s
structure LoopOk (pre : List Lp) (s : Lp) : Prop where
  form : formed s.ori = true
  once : s.ks.Nodup
  new : s.ori ∉ loris pre
def LoopsOk (ss : List Lp) : Prop := ∀ i s, ss[i]? = some s → LoopOk (ss.take i) s
theorem take_snoc {α : Type} {l : List α} {i : Nat} {x : α} (h : l[i]? = some x) : l.take (i + 1) = l.take i ++ [x] := by rw [List.take_add_one, h]; rfl
theorem oris_nodup {ss : List Spot} (h : SpotsOk ss) : ∀ i, (oris (ss.take i)).Nodup
  | 0 => by simp [oris]
  | i + 1 => by
    have ih := oris_nodup h i
    cases hx : ss[i]? with
    | none => rw [List.take_of_length_le (by have := List.getElem?_eq_none_iff.1 hx; omega)]; rwa [List.take_of_length_le (by have := List.getElem?_eq_none_iff.1 hx; omega)] at ih
    | some s =>
      have := (h i s hx).new
      rw [take_snoc hx, oris, List.map_append]
      refine List.nodup_append.2 ⟨ih, by simp, fun a ha b hb e => ?_⟩
      simp at hb
      subst hb
      subst e
      exact this ha
theorem loris_nodup {ss : List Lp} (h : LoopsOk ss) : ∀ i, (loris (ss.take i)).Nodup
  | 0 => by simp [loris]
  | i + 1 => by
    have ih := loris_nodup h i
    cases hx : ss[i]? with
    | none => rw [List.take_of_length_le (by have := List.getElem?_eq_none_iff.1 hx; omega)]; rwa [List.take_of_length_le (by have := List.getElem?_eq_none_iff.1 hx; omega)] at ih
    | some s =>
      have := (h i s hx).new
      rw [take_snoc hx, loris, List.map_append]
      refine List.nodup_append.2 ⟨ih, by simp, fun a ha b hb e => ?_⟩
      simp at hb
      subst hb
      subst e
      exact this ha

/-! ### The plan -/
def nI (n : Nat) : Int := n
def keptF (news : List Spot) : List Spot → Nat → List (Nat × Nat)
  | [], _ => []
  | s :: r, i => match place s.ori (oris news) with | some k => (i, k) :: keptF news r (i + 1) | none => keptF news r (i + 1)
def par (ss : List Spot) (keep : Ori → Bool) (s : Spot) : Bool := if s.parent < 0 then true else match ss[s.parent.toNat]? with | some p => keep p.ori | none => false
def topsF (ss : List Spot) (keep : Ori → Bool) : List Spot → Nat → List Int
  | [], _ => []
  | s :: r, i => if keep s.ori then topsF ss keep r (i + 1) else if par ss keep s then (i : Int) :: topsF ss keep r (i + 1) else topsF ss keep r (i + 1)
def lostF (keep : Ori → Bool) : List Spot → Nat
  | [] => 0
  | s :: r => if keep s.ori then lostF keep r else lostF keep r + 1
def isIn (l : List Ori) (o : Ori) : Bool := (place o l).isSome
/-- One of the old ones and its mate. -/
def pairD (f : Spot → Spot → Int) (news : List Spot) (s : Spot) : Int := match place s.ori (oris news) with | some k => (match news[k]? with | some n => f s n | none => 0) | none => 0
def txtD (s n : Spot) : Int := if s.text = n.text then 0 else 1
def atrD (s n : Spot) : Int := attrsD s.attrs n.attrs
def TagsOk (olds news : List Spot) : Prop := ∀ s ∈ olds, ∀ k n, place s.ori (oris news) = some k → news[k]? = some n → s.tag = n.tag
def movD (news : List Lp) (s : Lp) : Int := match place s.ori (loris news) with | some k => (match news[k]? with | some n => ((common s.ks n.ks).length : Int) - (lis (common s.ks n.ks) : Nat) | none => 0) | none => 0
structure Plan where
  kept : List (Nat × Nat)
  gone : List Int
  new : List Int
  created : Int
  placed : Int
  moved : Int
  removed : Int
  freed : Int
  attrs : Int
  texts : Int
def Plan.zero : Plan := ⟨[], [], [], 0, 0, 0, 0, 0, 0, 0⟩
def plan (olds : List Spot) (oldL : List Lp) (news : List Spot) (newL : List Lp) : Plan :=
  let gone := topsF olds (isIn (oris news)) olds 0
  let new := topsF news (isIn (oris olds)) news 0
  { kept := keptF news olds 0, gone := gone, new := new, created := (lostF (isIn (oris olds)) news : Nat), placed := new.length, moved := sumI (oldL.map (movD newL)),
    removed := gone.length, freed := (lostF (isIn (oris news)) olds : Nat), attrs := sumI (olds.map (pairD atrD news)), texts := sumI (olds.map (pairD txtD news)) }
theorem isIn_iff {l : List Ori} {o : Ori} : isIn l o = decide (o ∈ l) := by
  unfold isIn
  by_cases h : o ∈ l
  · rw [decide_eq_true h]
    cases hp : place o l with
    | none => exact absurd h (place_none.1 hp)
    | some _ => rfl
  · rw [decide_eq_false h, place_none.2 h]; rfl
theorem lost_len (l : List Ori) : ∀ ss : List Spot, lostF (isIn l) ss + ((oris ss).filter fun x => decide (x ∈ l)).length = ss.length
  | [] => rfl
  | s :: r => by
    have ih := lost_len l r
    simp only [lostF, oris, List.map_cons, List.filter_cons, isIn_iff] at ih ⊢
    split
    · simp only [List.length_cons] at ih ⊢; omega
    · simp only [List.length_cons] at ih ⊢; omega
theorem kept_len (news : List Spot) : ∀ (ss : List Spot) (i : Nat), (keptF news ss i).length = ((oris ss).filter fun x => decide (x ∈ oris news)).length
  | [], _ => rfl
  | s :: r, i => by
    have ih := kept_len news r (i + 1)
    simp only [keptF, oris, List.map_cons, List.filter_cons] at ih ⊢
    cases hp : place s.ori (oris news) with
    | none =>
      have hm : s.ori ∉ oris news := place_none.1 hp
      simp only [oris] at hp hm
      simpa [hp, hm, -List.mem_map] using ih
    | some k =>
      have hm : s.ori ∈ oris news := Decidable.byContradiction fun h => by rw [place_none.2 h] at hp; cases hp
      simp only [oris] at hp hm
      simpa [hp, hm, -List.mem_map] using ih
theorem created_eq {olds news : List Spot} (ho : (oris olds).Nodup) (hn : (oris news).Nodup) : ((lostF (isIn (oris olds)) news : Nat) : Int) = (news.length : Int) - ((keptF news olds 0).length : Nat) := by
  have h1 := lost_len (oris olds) news
  have h2 := kept_len news olds 0
  have h3 := filter_len ho hn
  omega
end Go.Abs
