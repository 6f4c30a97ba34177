/- The reference's Least by value: the spots that both keep. -/
import Derived.Test.YtahpohhadcflfaaZPatJ
import Derived.Test.YtahpohhadcflfaaZEqX26
namespace Go.Abs
open Go Go.Proofs Go.Proofs.Ytahpohhadcflfaa.LisMath Go.RowKit Go.IntWalk
set_option linter.unusedVariables false
set_option linter.unusedSimpArgs false

/-- While the reference tells the spots that both keep. -/
structure RInv (S T : St) (kv : AV) (acc : List (Nat × Nat)) (tol bkl : List Int) (fr at' tx : Int) : Prop where
  up : Up S T
  cl : Cl T
  to : T.get S.length = some (.rows 1 0 (ints tol))
  bk : T.get (S.length + 1) = some (.rows 1 0 (ints bkl))
  box : T.get (S.length + 2) = some (.box 46 (planC kv .nils .nils 0 0 0 0 fr at' tx))
  mu : Acc 2 (S.length + 3) T kv (pairsC acc)
section
variable {S T : St} {kv : AV} {acc : List (Nat × Nat)} {tol bkl : List Int} {fr at' tx : Int}
theorem RInv.setTo (h : RInv S T kv acc tol bkl fr at' tx) (l : List Int) : RInv S (T.put S.length (.rows 1 0 (ints l))) kv acc l bkl fr at' tx :=
  ⟨h.up.put (Nat.le_refl _) _, h.cl.put (closed_ints _ _), St.get_put_same (St.get_lt h.to), by rw [St.get_put_other (by omega)]; exact h.bk, by rw [St.get_put_other (by omega)]; exact h.box, h.mu.same (St.get_put_other (by omega))⟩
theorem RInv.setBk (h : RInv S T kv acc tol bkl fr at' tx) (l : List Int) : RInv S (T.put (S.length + 1) (.rows 1 0 (ints l))) kv acc tol l fr at' tx :=
  ⟨h.up.put (by omega) _, h.cl.put (closed_ints _ _), by rw [St.get_put_other (by omega)]; exact h.to, St.get_put_same (St.get_lt h.bk), by rw [St.get_put_other (by omega)]; exact h.box, h.mu.same (St.get_put_other (by omega))⟩
theorem RInv.set (h : RInv S T kv acc tol bkl fr at' tx) (f2 a2 t2 : Int) : RInv S (T.put (S.length + 2) (.box 46 (planC kv .nils .nils 0 0 0 0 f2 a2 t2))) kv acc tol bkl f2 a2 t2 :=
  ⟨h.up.put (by omega) _, h.cl.put (planC_closed (h.mu.clv h.mu.lt (closed_pairs _ _)) rfl rfl), by rw [St.get_put_other (by omega)]; exact h.to, by rw [St.get_put_other (by omega)]; exact h.bk, St.get_put_same (St.get_lt h.box), h.mu.same (St.get_put_other (by omega))⟩
theorem RInv.app (h : RInv S T kv acc tol bkl fr at' tx) (hl : acc.length < 10000000) (i k : Nat) :
    ∃ v2 T1, appendL T (some (S.length + 3, false)) 16 2 kv (.sl 2 [[.int .i64 (i : Int), .int .i64 (k : Int)]] 0 1 .exact) = some (v2, T1) ∧ writeA T1 (.bp (S.length + 2) 0) [v2] = some (T1.put (S.length + 2) (.box 46 (planC v2 .nils .nils 0 0 0 0 fr at' tx))) ∧ cell1 v2 = some v2 ∧
      RInv S (T1.put (S.length + 2) (.box 46 (planC v2 .nils .nils 0 0 0 0 fr at' tx))) v2 (acc ++ [(i, k)]) tol bkl fr at' tx := by
  obtain ⟨v2, y, p1, p2⟩ := h.mu.app (x := .sl 2 [[.int .i64 (i : Int), .int .i64 (k : Int)]] 0 1 .exact) (new := [pairC (i, k)]) (bytes := 16) rfl (by rw [pairsC_len]; simp [roomA]; omega) (by rw [pairsC_len]; simp [roomA]; omega)
  have hap : pairsC acc ++ [pairC (i, k)] = pairsC (acc ++ [(i, k)]) := by rw [pairsC_app]; rfl
  rw [hap] at p2
  have hl := h.mu.lt
  have g1 : (T.put (S.length + 3) y).get (S.length + 2) = some (.box 46 (planC kv .nils .nils 0 0 0 0 fr at' tx)) := by rw [St.get_put_other (by omega)]; exact h.box
  have hI1 : RInv S ((T.put (S.length + 3) y).put (S.length + 2) (.box 46 (planC v2 .nils .nils 0 0 0 0 fr at' tx))) v2 (acc ++ [(i, k)]) tol bkl fr at' tx := by
    refine ⟨(h.up.put (by omega) _).put (by omega) _, (p2.clp h.cl).put (planC_closed (p2.clv p2.lt (closed_pairs _ _)) rfl rfl), ?_, ?_, St.get_put_same (by simp; omega), p2.same (St.get_put_other (by omega))⟩
    · rw [St.get_put_other (by omega), St.get_put_other (by omega)]; exact h.to
    · rw [St.get_put_other (by omega), St.get_put_other (by omega)]; exact h.bk
  exact ⟨v2, _, p1, box_write g1 rfl, p2.sl.cell1, hI1⟩
end

/-- What stands in the rows 'to' and 'back'. -/
def ToOk (news olds : List Spot) (i : Nat) (tol : List Int) : Prop := tol.length = olds.length ∧ ∀ (j : Nat) (s : Spot), j < i → olds[j]? = some s → tol[j]? = some (plI 0 (place s.ori (oris news)))
def BkOk (news olds : List Spot) (i : Nat) (bkl : List Int) : Prop := bkl.length = news.length ∧ ∀ (k : Nat) (n : Spot), news[k]? = some n → ∃ c, bkl[k]? = some c ∧ (c < 0 ↔ n.ori ∉ oris (olds.take i))
theorem ToOk.next {news olds : List Spot} {i : Nat} {tol : List Int} (h : ToOk news olds i tol) {s : Spot} (gs : olds[i]? = some s) : ToOk news olds (i + 1) (tol.set i (plI 0 (place s.ori (oris news)))) := by
  have hil := (List.getElem?_eq_some_iff.1 gs).1
  have h1 := h.1
  refine ⟨by simpa using h.1, fun j z hj hz => ?_⟩
  by_cases hji : j = i
  · subst hji; rw [gs] at hz; cases hz
    rw [List.getElem?_set_self (by omega)]
  · rw [List.getElem?_set_ne (Ne.symm hji)]; exact h.2 j z (by omega) hz
theorem BkOk.none {news olds : List Spot} {i : Nat} {bkl : List Int} (h : BkOk news olds i bkl) {s : Spot} (gs : olds[i]? = some s) (hp : place s.ori (oris news) = none) : BkOk news olds (i + 1) bkl := by
  refine ⟨h.1, fun k n hn => ?_⟩
  obtain ⟨c, c1, c2⟩ := h.2 k n hn
  refine ⟨c, c1, c2.trans ?_⟩
  rw [take_snoc gs, oris, oris, List.map_append, List.mem_append]
  have this : n.ori ∉ List.map Spot.ori [s] := fun hm => by
    simp at hm
    have h2 := place_none.1 hp
    rw [← hm] at h2
    exact h2 (List.mem_map.2 ⟨n, List.mem_of_getElem? hn, rfl⟩)
  exact ⟨fun h hm => hm.elim h this, fun h hm => h (.inl hm)⟩
theorem BkOk.some {news olds : List Spot} {i : Nat} {bkl : List Int} (h : BkOk news olds i bkl) (hn : (oris news).Nodup) {s : Spot} (gs : olds[i]? = some s) {k : Nat} (hp : place s.ori (oris news) = some k) : BkOk news olds (i + 1) (bkl.set k (i : Int)) := by
  refine ⟨by simpa using h.1, fun k' n hk' => ?_⟩
  obtain ⟨c, c1, c2⟩ := h.2 k' n hk'
  have hkl := (List.getElem?_eq_some_iff.1 c1).1
  rw [take_snoc gs, oris, List.map_append, List.mem_append]
  by_cases hkk : k' = k
  · subst hkk
    obtain ⟨n', g1, g2⟩ := place_spot hp
    rw [hk'] at g1; cases g1
    refine ⟨(i : Int), by rw [List.getElem?_set_self hkl], ?_⟩
    constructor
    · intro h; omega
    · intro h; exact absurd (.inr (by simp [g2])) h
  · refine ⟨c, by rw [List.getElem?_set_ne (Ne.symm hkk)]; exact c1, c2.trans ?_⟩
    have hne : n.ori ∉ List.map Spot.ori [s] := fun hm => by
      simp at hm
      have h1 : place s.ori (oris news) = Option.some k' := place_get hn (by rw [oris, List.getElem?_map, hk']; simp [hm])
      rw [hp] at h1; cases h1; exact hkk rfl
    exact ⟨fun h hm => hm.elim h hne, fun h hm => h (.inl hm)⟩

section
variable {S : St} {base : Nat} {a b c d : AV} {olds news : List Spot} {rowsO rowsN : List (List AV)}
theorem rleast_loop1 {st0 : St} (hS : Up st0 S) (hst : Cl st0) (hA : Sl 30 a rowsO) (hEO : Each SpotR olds rowsO) (hN : Sl 30 c rowsN) (hEN : Each SpotR news rowsN)
    (hlo : olds.length < 10000000) (hln : news.length < 10000000) (hlao : ∀ s ∈ olds, s.attrs.length < 10000000) (hlan : ∀ s ∈ news, s.attrs.length < 10000000) (hSO : SpotsOk olds) (hSN : SpotsOk news)
    (hz : S.get st0.length = some (.box 46 zero10)) : ∀ (r : List Spot) (i : Nat), olds.drop i = r → i ≤ olds.length → ∀ (kv : AV) (acc : List (Nat × Nat)) (tol bkl : List Int) (fr : Nat) (at' tx : Int) (T : St), RInv S T kv acc tol bkl fr at' tx → ToOk news olds i tol → BkOk news olds i bkl → acc.length ≤ i → fr ≤ i → 0 ≤ at' → at' ≤ i * 20000000 → 0 ≤ tx → tx ≤ i →
    (¬ TagsOk r news ∧ aw 26 st0.length p26_1 ⟨[(0, a), (1, b), (2, c), (3, d), (8, .bp st0.length 0), (10, .ms S.length 0 0 olds.length olds.length), (11, .ms (S.length + 1) 0 0 news.length news.length), (13, .bp (S.length + 2) 0), (14, .int .i64 (i : Int))], []⟩ T = some (.ret (.tup [.agg zero10, .int .i64 1800]), st0)) ∨
    (TagsOk r news ∧ ∃ kv' T' tol' bkl', RInv S T' kv' (acc ++ keptF news r i) tol' bkl' ((fr + lostF (isIn (oris news)) r : Nat) : Int) (at' + sumI (r.map (pairD atrD news))) (tx + sumI (r.map (pairD txtD news))) ∧ ToOk news olds olds.length tol' ∧ BkOk news olds olds.length bkl' ∧
      ∀ R, aw 26 st0.length p26_1 ⟨[(0, a), (1, b), (2, c), (3, d), (8, .bp st0.length 0), (10, .ms S.length 0 0 olds.length olds.length), (11, .ms (S.length + 1) 0 0 news.length news.length), (13, .bp (S.length + 2) 0), (14, .int .i64 (olds.length : Int))], []⟩ T' = some R →
        aw 26 st0.length p26_1 ⟨[(0, a), (1, b), (2, c), (3, d), (8, .bp st0.length 0), (10, .ms S.length 0 0 olds.length olds.length), (11, .ms (S.length + 1) 0 0 news.length news.length), (13, .bp (S.length + 2) 0), (14, .int .i64 (i : Int))], []⟩ T = some R) := by
  intro r
  induction r with
  | nil =>
    intro i hi hio kv acc tol bkl fr at' tx T hI hto hbk ha _ _ _ _ _
    have h1 : olds.length ≤ i := by simpa using hi
    have : i = olds.length := by omega
    subst this
    exact .inr ⟨fun s hs => (List.not_mem_nil hs).elim, kv, T, tol, bkl, by simpa [keptF, sumI, lostF] using hI, hto, hbk, fun R hR => hR⟩
  | cons s r ih =>
    intro i hi hio kv acc tol bkl fr at' tx T hI hto hbk ha hfr hat0 hat1 htx0 htx1
    have hil : i < olds.length := by have := congrArg List.length hi; simp at this; omega
    have hr : olds.drop (i + 1) = r := by have := congrArg List.tail hi; simpa using this
    have gs : olds[i]? = some s := by
      have : (olds.drop i)[0]? = some s := by rw [hi]; rfl
      rw [List.getElem?_drop] at this; simpa using this
    obtain ⟨row, ⟨ho, x, rfl, hX, hxc⟩, hrd⟩ := ixR hA hEO gs
    have ei := e1i (show i < 1000000000000 by omega)
    have hf := find_run hI.cl hN hEN hln ho
    have gt : tol[i]? = some (tol[i]'(by rw [hto.1]; omega)) := List.getElem?_eq_getElem _
    have hto2 := hto.next gs
    have hI1 := hI.setTo (tol.set i (plI 0 (place s.ori (oris news))))
    have key : ∀ R, _ := fun R => F26_1 a b c d (.bp st0.length 0) (.ms S.length 0 0 olds.length olds.length) (.ms (S.length + 1) 0 0 news.length news.length) (.bp (S.length + 2) 0) (i : Int) st0.length T (r := R)
    rw [lnR (st := []) hA.rd hEO, if_pos (by simp; omega)] at key
    simp only [hrd, ptrAdd_ip, readA_ip, Option.bind_some, Nat.zero_add, sp_ori ho, hf, callB_ret, intV_int, wr0 hI.to hto.1 gt, ptrAdd_bp, Nat.reduceAdd, box_read hI1.box, sp_tag ho, sp_text ho, sp_attrs ho, strV_str, strA, boolV_bool, decide_eq_true_eq, ei] at key
    have pl0 : ∀ (k g n : AV) (c p m r f a t : Int), readRow (planC k g n c p m r f a t) 0 1 false = Option.some k := fun _ _ _ _ _ _ _ _ _ _ => rfl
    have pl7 : ∀ (k g n : AV) (c p m r f a t : Int), readRow (planC k g n c p m r f a t) 7 1 false = Option.some (.int .i64 f) := fun _ _ _ _ _ _ _ _ _ _ => rfl
    have pl8 : ∀ (k g n : AV) (c p m r f a t : Int), readRow (planC k g n c p m r f a t) 8 1 false = Option.some (.int .i64 a) := fun _ _ _ _ _ _ _ _ _ _ => rfl
    have pl9 : ∀ (k g n : AV) (c p m r f a t : Int), readRow (planC k g n c p m r f a t) 9 1 false = Option.some (.int .i64 t) := fun _ _ _ _ _ _ _ _ _ _ => rfl
    cases hp : place s.ori (oris news) with
    | none =>
      have hd : ∀ f, pairD f news s = 0 := fun f => by simp [pairD, hp]
      have hin : isIn (oris news) s.ori = false := by simp [isIn, hp]
      rw [hp] at hI1 hto2
      have efr : IntKind.i64.wrap ((fr : Int) + 1) = ((fr + 1 : Nat) : Int) := e1i (by omega)
      have hI2 := hI1.set ((fr + 1 : Nat) : Int) at' tx
      have w := box_write hI1.box (c := 7) (cs := [.int .i64 ((fr + 1 : Nat) : Int)]) (row' := planC kv .nils .nils 0 0 0 0 ((fr + 1 : Nat) : Int) at' tx) rfl
      simp only [hp, plI, pl7, Option.bind_some, intV_int, efr] at key
      simp only [plI] at w hI2 hto2
      simp only [w, Option.bind_some] at key
      rw [if_pos (by decide)] at key
      rcases ih (i + 1) hr hil kv acc _ bkl (fr + 1) at' tx _ hI2 hto2 (hbk.none gs hp) (by omega) (by omega) hat0 (by omega) htx0 (by omega) with ⟨h1, h2⟩ | ⟨h1, kv', T', tol', bkl', h2, h3, h4, h5⟩
      · exact .inl ⟨fun h => h1 fun z hz => h z (List.mem_cons_of_mem _ hz), key _ h2⟩
      · refine .inr ⟨fun z hz k n hk hn => ?_, kv', T', tol', bkl', ?_, h3, h4, fun R hR => key _ (h5 R hR)⟩
        · rcases List.mem_cons.1 hz with rfl | hz
          · rw [hp] at hk; cases hk
          · exact h1 z hz k n hk hn
        · simp only [keptF, hp, List.map_cons, sumI, hd, Int.zero_add, lostF, hin, Bool.false_eq_true, if_false]
          rw [show fr + (lostF (isIn (oris news)) r + 1) = fr + 1 + lostF (isIn (oris news)) r by omega]
          exact h2
    | some k =>
      obtain ⟨n, gn, hno⟩ := place_spot hp
      have hkl := (List.getElem?_eq_some_iff.1 gn).1
      have hin : isIn (oris news) s.ori = true := by simp [isIn, hp]
      obtain ⟨rown, ⟨hon, y, rfl, hY, hyc⟩, hrdn⟩ := ixR hN hEN gn
      rw [hp] at hI1 hto2
      simp only [hp, plI, Nat.zero_add] at key
      simp only [plI, Nat.zero_add] at hI1 hto2
      rw [if_neg (by omega)] at key
      have gb : bkl[k]? = Option.some (bkl[k]'(by rw [hbk.1]; omega)) := List.getElem?_eq_getElem _
      have hI2 := hI1.setBk (bkl.set k (i : Int))
      obtain ⟨v2, T1, p1, p2, p3, hI3⟩ := hI2.app (by omega) i k
      have hz' := hI1.up.get hz
      have hc10 : cellsV 10 (AV.agg [AV.nils, AV.nils, AV.nils, AV.int IntKind.i64 0, AV.int IntKind.i64 0, AV.int IntKind.i64 0, AV.int IntKind.i64 0, AV.int IntKind.i64 0, AV.int IntKind.i64 0, AV.int IntKind.i64 0]) = Option.some zero10 := rfl
      have hw : writeA (T.put S.length (.rows 1 0 (ints (tol.set i (k : Int))))) (.bp st0.length 0) zero10 = Option.some (T.put S.length (.rows 1 0 (ints (tol.set i (k : Int))))) := by rw [box_write hz' (setAt_all _ _ rfl), St.put_same hz']
      have hrz : readRow zero10 0 10 true = Option.some (.agg zero10) := rfl
      have hUU := hS.trans hI1.up
      have hout : outL false st0.length (AOut.ret (outV1 [.agg zero10, .int .i64 1800])) (T.put S.length (.rows 1 0 (ints (tol.set i (k : Int))))) = Option.some (.ret (.tup [.agg zero10, .int .i64 1800]), st0) := by
        have := outL_plain (n := st0.length) (v := .tup [.agg zero10, .int .i64 1800]) (st := T.put S.length (.rows 1 0 (ints (tol.set i (k : Int))))) rfl rfl (by rw [hUU.low]; exact hst) hUU.len
        rw [hUU.low] at this
        exact this
      have hcp : cellsV 2 (AV.agg [AV.int IntKind.i64 (i : Int), AV.int IntKind.i64 (k : Int)]) = Option.some [AV.int IntKind.i64 (i : Int), AV.int IntKind.i64 (k : Int)] := rfl
      have hst2 : List.map AV.strip [AV.int IntKind.i64 (i : Int), AV.int IntKind.i64 (k : Int)] = [AV.int IntKind.i64 (i : Int), AV.int IntKind.i64 (k : Int)] := rfl
      have hh : homeV (fun t c => ((List.find? (fun x => x.fst == t) trycells).bind fun x => List.findIdx?.go (fun x => x == c) x.snd 0).getD 0) false ((T.put S.length (.rows 1 0 (ints (tol.set i (k : Int))))).put (S.length + 1) (.rows 1 0 (ints (bkl.set k (i : Int))))) (.bp (S.length + 2) 0) = Option.some (S.length + 3, false) := by
        simp only [homeV, hI2.box, hc46_0, Nat.add_zero]
      simp only [hrdn, ptrAdd_ip, readA_ip, Option.bind_some, Nat.zero_add, sp_tag hon, sp_text hon, sp_attrs hon, strV_str, hc10, hw, ld46, box_read hz', hrz, hout, wr0 hI1.bk hbk.1 gb, box_read hI2.box, pl0, hcp, hst2, hh, p1, bind2_some, p3, p2, box_read hI3.box, pl8, pl9, intV_int] at key
      by_cases ht : n.tag = s.tag
      · have hsk := hSO i s gs
        have hnk := hSN k n gn
        have la := hlao s (List.mem_of_getElem? gs)
        have lb := hlan n (List.mem_of_getElem? gn)
        have hdiff : ∀ X, cw 47 [x, y] X = Option.some (.ret (.int .i64 (attrsD s.attrs n.attrs)), X) := fun X => attrs_run X hX hY la lb
        have hbd := attrsD_bound s.attrs n.attrs
        have ew : IntKind.i64.wrap (at' + attrsD s.attrs n.attrs) = at' + attrsD s.attrs n.attrs := i64_in _ (by omega)
        have etw : IntKind.i64.wrap (tx + 1) = tx + 1 := i64_in _ (by omega)
        rw [if_neg (by simp [ht])] at key
        obtain ⟨T4, hI4, hk4⟩ : ∃ T4, RInv S T4 v2 (acc ++ [(i, k)]) (tol.set i (k : Int)) (bkl.set k (i : Int)) fr (at' + attrsD s.attrs n.attrs) (tx + txtD s n) ∧ ∀ R,
            aw 26 st0.length p26_1 ⟨[(0, a), (1, b), (2, c), (3, d), (8, .bp st0.length 0), (10, .ms S.length 0 0 olds.length olds.length), (11, .ms (S.length + 1) 0 0 news.length news.length), (13, .bp (S.length + 2) 0), (14, .int .i64 ((i + 1 : Nat) : Int))], []⟩ T4 = Option.some R →
            aw 26 st0.length p26_1 ⟨[(0, a), (1, b), (2, c), (3, d), (8, .bp st0.length 0), (10, .ms S.length 0 0 olds.length olds.length), (11, .ms (S.length + 1) 0 0 news.length news.length), (13, .bp (S.length + 2) 0), (14, .int .i64 (i : Int))], []⟩ T = Option.some R := by
          by_cases htg : s.tag = []
          · have ha1 : s.attrs = [] := Decidable.byContradiction fun h => hsk.bare ⟨htg, h⟩
            have ha2 : n.attrs = [] := Decidable.byContradiction fun h => hnk.bare ⟨by rw [ht]; exact htg, h⟩
            have had : attrsD s.attrs n.attrs = 0 := by rw [ha1, ha2]; rfl
            simp only [htg, beq_self_eq_true, Bool.not_true, Bool.false_eq_true, if_false, if_true] at key
            by_cases htx : s.text = n.text
            · refine ⟨_, by rw [had, show txtD s n = 0 by simp [txtD, htx], Int.add_zero, Int.add_zero]; exact hI3, fun R hR => key R ?_⟩
              rw [if_neg (by simp [htx])]
              exact hR
            · refine ⟨_, by rw [had, show txtD s n = 1 by simp [txtD, htx], Int.add_zero]; exact hI3.set _ _ _, fun R hR => key R ?_⟩
              have w := box_write hI3.box (c := 9) (cs := [.int .i64 (tx + 1)]) (row' := planC v2 .nils .nils 0 0 0 0 (fr : Int) at' (tx + 1)) rfl
              rw [if_pos (by simp [htx]), etw, w]
              exact hR
          · have ht1 : s.text = [] := Decidable.byContradiction fun h => hsk.text ⟨htg, h⟩
            have ht2 : n.text = [] := Decidable.byContradiction fun h => hnk.text ⟨by rw [ht]; exact htg, h⟩
            have hb : (s.tag == []) = false := by simpa using htg
            simp only [hb, Bool.not_false, Bool.false_eq_true, if_false, if_true, hdiff, callB_ret, intV_int, Option.bind_some, ew] at key
            refine ⟨_, by rw [show txtD s n = 0 by simp [txtD, ht1, ht2], Int.add_zero]; exact hI3.set _ _ _, fun R hR => key R ?_⟩
            have w := box_write hI3.box (c := 8) (cs := [.int .i64 (at' + attrsD s.attrs n.attrs)]) (row' := planC v2 .nils .nils 0 0 0 0 (fr : Int) (at' + attrsD s.attrs n.attrs) tx) rfl
            simp only [w, Option.bind_some]
            rw [if_pos (by simp [isIp, List.range.loop, ld3, box_read hI3.box, pl8, AV.beq])]
            exact hR
        have hpa : pairD atrD news s = attrsD s.attrs n.attrs := by simp [pairD, hp, gn, atrD]
        have hpt : pairD txtD news s = txtD s n := by simp [pairD, hp, gn]
        have htb : 0 ≤ txtD s n ∧ txtD s n ≤ 1 := by unfold txtD; split <;> omega
        rcases ih (i + 1) hr hil v2 _ _ _ fr _ _ T4 hI4 hto2 (hbk.some (by have := oris_nodup hSN news.length; rwa [List.take_length] at this) gs hp) (by simp; omega) (by omega) (by omega) (by omega) (by omega) (by omega) with ⟨h1, h2⟩ | ⟨h1, kv', T', tol', bkl', h2, h3, h4, h5⟩
        · exact .inl ⟨fun h => h1 fun z hz => h z (List.mem_cons_of_mem _ hz), hk4 _ h2⟩
        · refine .inr ⟨fun z hz k' n' hk hn => ?_, kv', T', tol', bkl', ?_, h3, h4, fun R hR => hk4 _ (h5 R hR)⟩
          · rcases List.mem_cons.1 hz with rfl | hz
            · rw [hp] at hk; cases hk; rw [gn] at hn; cases hn; exact ht.symm
            · exact h1 z hz k' n' hk hn
          · simp only [keptF, hp, List.map_cons, sumI, hpa, hpt, lostF, hin, if_true]
            rw [← Int.add_assoc, ← Int.add_assoc, show acc ++ (i, k) :: keptF news r (i + 1) = acc ++ [(i, k)] ++ keptF news r (i + 1) by simp]
            exact h2
      · refine .inl ⟨fun h => ht (h s (by simp) k n hp gn).symm, key _ ?_⟩
        rw [if_pos (by simpa using ht)]
end
end Go.Abs
