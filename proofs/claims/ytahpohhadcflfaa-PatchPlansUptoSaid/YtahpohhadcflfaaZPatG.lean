/- Least by value: the spots that both keep. -/
import Derived.Test.YtahpohhadcflfaaZPatF
import Derived.Test.YtahpohhadcflfaaZEqX25
namespace Go.Abs
open Go Go.Proofs Go.Proofs.Ytahpohhadcflfaa.LisMath Go.RowKit Go.IntWalk
set_option linter.unusedVariables false
set_option linter.unusedSimpArgs false

def pairC (p : Nat × Nat) : List AV := [.int .i64 p.1, .int .i64 p.2]
def pairsC (l : List (Nat × Nat)) : List (List AV) := l.map pairC
theorem pairsC_len (l : List (Nat × Nat)) : (pairsC l).length = l.length := by simp [pairsC]
theorem pairsC_app (l m : List (Nat × Nat)) : pairsC (l ++ m) = pairsC l ++ pairsC m := by simp [pairsC]
theorem closed_pairs (n : Nat) (l : List (Nat × Nat)) : AV.closedss n (pairsC l) = true := by
  induction l with
  | nil => rfl
  | cons c l ih => simp [pairsC, AV.closedss, AV.closeds, AV.closed, pairC] at ih ⊢; exact ih
theorem hc46_0 : ((List.find? (fun x => x.fst == 46) trycells).bind fun x => List.findIdx?.go (fun x => x == 0) x.snd 0).getD 0 = 0 := by kernel_rfl
theorem ld3 (st : St) (p : AV) : ldA Try.prog st 3 p = readA st p 1 false := by
  have h1 : aggT Try.prog 3 = some false := by kernel_rfl
  have h2 : szOf Try.prog 3 = some 1 := by kernel_rfl
  unfold ldA readA
  rw [h1, h2]; rfl
theorem ld46 (st : St) (p : AV) : ldA Try.prog st 46 p = readA st p 10 true := by
  have h1 : aggT Try.prog 46 = some true := by kernel_rfl
  have h2 : szOf Try.prog 46 = some 10 := by kernel_rfl
  unfold ldA readA
  rw [h1, h2]; rfl
theorem MuN.clv {st : St} {kd o : Nat} {v : AV} {c : List (List AV)} (h : MuN st kd v o c) {n : Nat} (hn : o < n) : AV.closed n v = true := by
  rcases h with ⟨rfl, _⟩ | ⟨ep, rfl, _⟩
  · rfl
  · simpa [AV.closed] using hn
def z64 : AV := .int .i64 0
def zero10 : List AV := [.nils, .nils, .nils, z64, z64, z64, z64, z64, z64, z64]
def planC (k g n : AV) (c p m r f a t : Int) : List AV := [k, g, n, .int .i64 c, .int .i64 p, .int .i64 m, .int .i64 r, .int .i64 f, .int .i64 a, .int .i64 t]
theorem planC_closed {m' : Nat} {k g n : AV} {c p m r f a t : Int} (h1 : AV.closed m' k = true) (h2 : AV.closed m' g = true) (h3 : AV.closed m' n = true) : AV.closeds m' (planC k g n c p m r f a t) = true := by
  simp [planC, AV.closeds, h1, h2, h3, AV.closed]
theorem place_spot {o : Ori} {ss : List Spot} {k : Nat} (h : place o (oris ss) = some k) : ∃ n, ss[k]? = some n ∧ n.ori = o := by
  have := place_some h
  rw [oris, List.getElem?_map] at this
  obtain ⟨n, h1, h2⟩ := Option.map_eq_some_iff.1 this
  exact ⟨n, h1, h2⟩
/-- While the spots that both keep are told. -/
structure PInv (S T : St) (kv : AV) (acc : List (Nat × Nat)) (at' tx : Int) : Prop where
  up : Up S T
  cl : Cl T
  box : T.get S.length = some (.box 46 (planC kv .nils .nils 0 0 0 0 0 at' tx))
  mu : MuN T 2 kv (S.length + 1) (pairsC acc)
  f2 : ∃ e, T.get (S.length + 2) = some (.free e)
  f3 : ∃ e, T.get (S.length + 3) = some (.free e)

theorem PInv.set {S T : St} {kv : AV} {acc : List (Nat × Nat)} {at' tx : Int} (h : PInv S T kv acc at' tx) (a2 t2 : Int) : PInv S (T.put S.length (.box 46 (planC kv .nils .nils 0 0 0 0 0 a2 t2))) kv acc a2 t2 := by
  have hl := h.mu.lt
  exact ⟨h.up.put (Nat.le_refl _) _, h.cl.put (planC_closed (h.mu.clv hl) rfl rfl), St.get_put_same (St.get_lt h.box), h.mu.same (St.get_put_other (by omega)), by rw [St.get_put_other (by omega)]; exact h.f2, by rw [St.get_put_other (by omega)]; exact h.f3⟩
theorem PInv.app {S T : St} {kv : AV} {acc : List (Nat × Nat)} {at' tx : Int} (h : PInv S T kv acc at' tx) (hl : acc.length < 10000000) (i k : Nat) :
    ∃ v2 T1, appendL T (some (S.length + 1, true)) 16 2 kv (.sl 2 [[.int .i64 (i : Int), .int .i64 (k : Int)]] 0 1 .exact) = some (v2, T1) ∧ writeA T1 (.bp S.length 0) [v2] = some (T1.put S.length (.box 46 (planC v2 .nils .nils 0 0 0 0 0 at' tx))) ∧ cell1 v2 = some v2 ∧
      PInv S (T1.put S.length (.box 46 (planC v2 .nils .nils 0 0 0 0 0 at' tx))) v2 (acc ++ [(i, k)]) at' tx := by
  obtain ⟨v2, y, p1, p2, p3⟩ := h.mu.app (x := .sl 2 [[.int .i64 (i : Int), .int .i64 (k : Int)]] 0 1 .exact) (new := [pairC (i, k)]) (bytes := 16) rfl (by rw [pairsC_len]; simp [roomA]; omega) (by rw [pairsC_len]; simp [roomA]; omega)
  have hap : pairsC acc ++ [pairC (i, k)] = pairsC (acc ++ [(i, k)]) := by rw [pairsC_app]; rfl
  rw [hap] at p2 p3
  have hl := h.mu.lt
  have g1 : (T.put (S.length + 1) y).get S.length = some (.box 46 (planC kv .nils .nils 0 0 0 0 0 at' tx)) := by rw [St.get_put_other (by omega)]; exact h.box
  have hI1 : PInv S ((T.put (S.length + 1) y).put S.length (.box 46 (planC v2 .nils .nils 0 0 0 0 0 at' tx))) v2 (acc ++ [(i, k)]) at' tx := by
    refine ⟨(h.up.put (by omega) _).put (Nat.le_refl _) _, (h.cl.put ?_).put (planC_closed (p2.clv (by simpa using hl)) rfl rfl), St.get_put_same (by simp; omega), p2.same (St.get_put_other (by omega)), ?_, ?_⟩
    · rcases p3 with ⟨e, rfl⟩ | ⟨ep, rfl⟩
      · rfl
      · exact closed_pairs _ _
    · rw [St.get_put_other (by omega), St.get_put_other (by omega)]; exact h.f2
    · rw [St.get_put_other (by omega), St.get_put_other (by omega)]; exact h.f3
  exact ⟨v2, _, p1, box_write g1 rfl, p2.cell1, hI1⟩

theorem least_loop0 {S : St} {base oB mB1 mB2 : Nat} {a b c d ra : AV} {olds news : List Spot} {newL : List Lp} {rowsO rowsN : List (List AV)} (hA : Sl 30 a rowsO) (hEO : Each SpotR olds rowsO) (hN : Sl 30 c rowsN) (hEN : Each SpotR news rowsN)
    (hlo : olds.length < 10000000) (hln : news.length < 10000000) (hlao : ∀ s ∈ olds, s.attrs.length < 10000000) (hlan : ∀ s ∈ news, s.attrs.length < 10000000) (hSO : SpotsOk olds) (hSN : SpotsOk news) (hokn : OksO (oris news))
    (hB : Ren S oB c d mB1 mB2 (oris news) (loris newL)) (hz : S.get base = some (.box 46 zero10)) : ∀ (r : List Spot) (i : Nat), olds.drop i = r → i ≤ olds.length → ∀ (kv : AV) (acc : List (Nat × Nat)) (at' tx : Int) (T : St), PInv S T kv acc at' tx → acc.length ≤ i → 0 ≤ at' → at' ≤ i * 20000000 → 0 ≤ tx → tx ≤ i →
    (¬ TagsOk r news ∧ ∃ T', aw 25 base p25_0 ⟨[(0, a), (1, b), (2, c), (3, d), (8, .bp base 0), (10, ra), (11, .bp oB 0), (12, .bp S.length 0), (38, .int .i64 (olds.length : Int)), (39, .int .i64 (i : Int))], []⟩ T = some (.ret (.tup [.agg zero10, .int .i64 1800]), T') ∧ Up S T' ∧ Cl T') ∨
    (TagsOk r news ∧ ∃ kv' T', PInv S T' kv' (acc ++ keptF news r i) (at' + sumI (r.map (pairD atrD news))) (tx + sumI (r.map (pairD txtD news))) ∧
      ∀ R, aw 25 base p25_0 ⟨[(0, a), (1, b), (2, c), (3, d), (8, .bp base 0), (10, ra), (11, .bp oB 0), (12, .bp S.length 0), (38, .int .i64 (olds.length : Int)), (39, .int .i64 (olds.length : Int))], []⟩ T' = some R →
        aw 25 base p25_0 ⟨[(0, a), (1, b), (2, c), (3, d), (8, .bp base 0), (10, ra), (11, .bp oB 0), (12, .bp S.length 0), (38, .int .i64 (olds.length : Int)), (39, .int .i64 (i : Int))], []⟩ T = some R) := by
  intro r
  induction r with
  | nil =>
    intro i hi hio kv acc at' tx T hI ha _ _ _ _
    have h1 : olds.length ≤ i := by simpa using hi
    have : i = olds.length := by omega
    subst this
    exact .inr ⟨fun s hs => (List.not_mem_nil hs).elim, kv, T, by simpa [keptF, sumI] using hI, fun R hR => hR⟩
  | cons s r ih =>
    intro i hi hio kv acc at' tx T hI ha hat0 hat1 htx0 htx1
    have hil : i < olds.length := by have := congrArg List.length hi; simp at this; omega
    have hr : olds.drop (i + 1) = r := by have := congrArg List.tail hi; simpa using this
    have gs : olds[i]? = some s := by
      have : (olds.drop i)[0]? = some s := by rw [hi]; rfl
      rw [List.getElem?_drop] at this; simpa using this
    obtain ⟨row, ⟨ho, x, rfl, hX, hxc⟩, hrd⟩ := ixR hA hEO gs
    have hB' := hB.up hI.up
    have ei := e1i (show i < 1000000000000 by omega)
    have hii : (i : Int) < (olds.length : Int) := by omega
    have q2 : readRow [c, d, AV.mp mB1, AV.mp mB2] 2 1 false = some (.mp mB1) := rfl
    have key : ∀ R, _ := fun R => F25_0 a b c d (.bp base 0) ra (.bp oB 0) (.bp S.length 0) (olds.length : Int) (i : Int) base T (r := R)
    simp only [nilCheckA_bp, ptrAdd_bp, Nat.zero_add, Nat.add_zero, Option.bind_some, box_read hB'.box, q2, hrd, ptrAdd_ip, nilCheckA_ip, readA_ip, sp_ori ho, sp_tag ho, sp_text ho, sp_attrs ho, olookup_ok hB'.p1 hokn ho, extractA_tup, List.getElem?_cons_zero, List.getElem?_cons_succ, intV_int, boolV_bool, decide_eq_true_eq, ei, strV_str, strA, if_pos hii] at key
    cases hp : place s.ori (oris news) with
    | none =>
      simp only [hp, Option.isSome_none, Bool.not_false, if_true] at key
      have hd : ∀ f, pairD f news s = 0 := fun f => by simp [pairD, hp]
      rcases ih (i + 1) hr hil kv acc at' tx T hI (by omega) hat0 (by omega) htx0 (by omega) with ⟨h1, T', h2, h3⟩ | ⟨h1, kv', T', h2, h3⟩
      · exact .inl ⟨fun h => h1 fun z hz => h z (List.mem_cons_of_mem _ hz), T', key _ h2, h3⟩
      · refine .inr ⟨fun z hz k n hk hn => ?_, kv', T', ?_, fun R hR => key _ (h3 R hR)⟩
        · rcases List.mem_cons.1 hz with rfl | hz
          · rw [hp] at hk; cases hk
          · exact h1 z hz k n hk hn
        · simp only [keptF, hp, List.map_cons, sumI, hd, Int.zero_add]; exact h2
    | some k =>
      obtain ⟨n, gn, hno⟩ := place_spot hp
      have hkl := (List.getElem?_eq_some_iff.1 gn).1
      obtain ⟨rown, ⟨hon, y, rfl, hY, hyc⟩, hrdn⟩ := ixR hN hEN gn
      have hz' := hI.up.get hz
      have hc10 : cellsV 10 (AV.agg [AV.nils, AV.nils, AV.nils, AV.int IntKind.i64 0, AV.int IntKind.i64 0, AV.int IntKind.i64 0, AV.int IntKind.i64 0, AV.int IntKind.i64 0, AV.int IntKind.i64 0, AV.int IntKind.i64 0]) = some zero10 := rfl
      have hw : writeA T (.bp base 0) zero10 = some T := by rw [box_write hz' (setAt_all _ _ rfl), St.put_same hz']
      have hrz : readRow zero10 0 10 true = some (.agg zero10) := rfl
      have hcp : cellsV 2 (AV.agg [AV.int IntKind.i64 (i : Int), AV.int IntKind.i64 (k : Int)]) = some [AV.int IntKind.i64 (i : Int), AV.int IntKind.i64 (k : Int)] := rfl
      have pl0 : ∀ (k g n : AV) (c p m r f a t : Int), readRow (planC k g n c p m r f a t) 0 1 false = some k := fun _ _ _ _ _ _ _ _ _ _ => rfl
      have pl8 : ∀ (k g n : AV) (c p m r f a t : Int), readRow (planC k g n c p m r f a t) 8 1 false = some (.int .i64 a) := fun _ _ _ _ _ _ _ _ _ _ => rfl
      have pl9 : ∀ (k g n : AV) (c p m r f a t : Int), readRow (planC k g n c p m r f a t) 9 1 false = some (.int .i64 t) := fun _ _ _ _ _ _ _ _ _ _ => rfl
      have hh : homeV (fun t c => ((List.find? (fun x => x.fst == t) trycells).bind fun x => List.findIdx?.go (fun x => x == c) x.snd 0).getD 0) true T (.bp S.length 0) = some (S.length + 1, true) := by
        simp only [homeV, hI.box, hc46_0, Nat.add_zero]
      obtain ⟨v2, T1, p1, p2, p3, hI2⟩ := hI.app (by omega) i k
      have hst : List.map AV.strip [AV.int IntKind.i64 (i : Int), AV.int IntKind.i64 (k : Int)] = [AV.int IntKind.i64 (i : Int), AV.int IntKind.i64 (k : Int)] := rfl
      simp only [hp, Option.isSome_some, Bool.not_true, Bool.false_eq_true, if_false, hrdn, ptrAdd_ip, nilCheckA_ip, readA_ip, Option.bind_some, Nat.zero_add, sp_tag hon, sp_text hon, sp_attrs hon, strV_str, boolV_bool, hc10, hw, ld46, box_read hz', hrz, outL_true, outV1, hcp, box_read hI.box, pl0, hh, hst, p1, bind2_some, p3, p2, box_read hI2.box, pl9, pl8, intV_int] at key
      by_cases ht : s.tag = n.tag
      · simp only [Nat.reduceAdd] at key
        have hnO := rise_nodup (hSO i s gs).rise
        have hnN := rise_nodup (hSN k n gn).rise
        have la := hlao s (List.mem_of_getElem? gs)
        have lb := hlan n (List.mem_of_getElem? gn)
        have hdiff : ∀ X, Cl X → cw 41 [x, y] X = some (.ret (.int .i64 (attrsD s.attrs n.attrs)), X) := fun X hX' => by rw [differ_run hX' hX hY hxc hyc la lb hnO, differ_eq hnO hnN]
        have hbd := attrsD_bound s.attrs n.attrs
        have ew : IntKind.i64.wrap (at' + attrsD s.attrs n.attrs) = at' + attrsD s.attrs n.attrs := i64_in _ (by omega)
        have etw : IntKind.i64.wrap (tx + 1) = tx + 1 := i64_in _ (by omega)
        obtain ⟨T4, hI4, hk4⟩ : ∃ T4, PInv S T4 v2 (acc ++ [(i, k)]) (at' + attrsD s.attrs n.attrs) (tx + txtD s n) ∧ ∀ R,
            aw 25 base p25_0 ⟨[(0, a), (1, b), (2, c), (3, d), (8, .bp base 0), (10, ra), (11, .bp oB 0), (12, .bp S.length 0), (38, .int .i64 (olds.length : Int)), (39, .int .i64 ((i + 1 : Nat) : Int))], []⟩ T4 = some R →
            aw 25 base p25_0 ⟨[(0, a), (1, b), (2, c), (3, d), (8, .bp base 0), (10, ra), (11, .bp oB 0), (12, .bp S.length 0), (38, .int .i64 (olds.length : Int)), (39, .int .i64 (i : Int))], []⟩ T = some R := by
          by_cases htx : s.text = n.text
          · refine ⟨_, by rw [show tx + txtD s n = tx by simp [txtD, htx]]; exact hI2.set _ _, fun R hR => key R ?_⟩
            have hI3 := hI2.set (at' + attrsD s.attrs n.attrs) tx
            have w : writeA (T1.put S.length (.box 46 (planC v2 .nils .nils 0 0 0 0 0 at' tx))) (.bp S.length 8) [.int .i64 (at' + attrsD s.attrs n.attrs)] = some ((T1.put S.length (.box 46 (planC v2 .nils .nils 0 0 0 0 0 at' tx))).put S.length (.box 46 (planC v2 .nils .nils 0 0 0 0 0 (at' + attrsD s.attrs n.attrs) tx))) := box_write hI2.box rfl
            rw [if_neg (by simp [ht]), if_neg (by simp [htx]), hdiff _ hI2.cl]
            simp only [callB_ret, intV_int, Option.bind_some, ew, w]
            rw [if_pos (by simp [isIp, List.range.loop, ld3, box_read hI2.box, pl8, AV.beq])]
            exact hR
          · refine ⟨_, by rw [show tx + txtD s n = tx + 1 by simp [txtD, htx]]; exact (hI2.set at' (tx + 1)).set _ _, fun R hR => key R ?_⟩
            have hI3 := hI2.set at' (tx + 1)
            have w0 : writeA (T1.put S.length (.box 46 (planC v2 .nils .nils 0 0 0 0 0 at' tx))) (.bp S.length 9) [.int .i64 (tx + 1)] = some ((T1.put S.length (.box 46 (planC v2 .nils .nils 0 0 0 0 0 at' tx))).put S.length (.box 46 (planC v2 .nils .nils 0 0 0 0 0 at' (tx + 1)))) := box_write hI2.box rfl
            have w : writeA ((T1.put S.length (.box 46 (planC v2 .nils .nils 0 0 0 0 0 at' tx))).put S.length (.box 46 (planC v2 .nils .nils 0 0 0 0 0 at' (tx + 1)))) (.bp S.length 8) [.int .i64 (at' + attrsD s.attrs n.attrs)] = some _ := box_write hI3.box (row' := planC v2 .nils .nils 0 0 0 0 0 (at' + attrsD s.attrs n.attrs) (tx + 1)) rfl
            rw [if_neg (by simp [ht]), if_pos (by simp [htx]), etw, w0]
            simp only [Option.bind_some, box_read hI3.box, pl8, intV_int, hdiff _ hI3.cl, callB_ret, ew, w]
            rw [if_pos (by simp [isIp, List.range.loop, ld3, box_read hI3.box, pl8, AV.beq])]
            exact hR
        have hpa : pairD atrD news s = attrsD s.attrs n.attrs := by simp [pairD, hp, gn, atrD]
        have hpt : pairD txtD news s = txtD s n := by simp [pairD, hp, gn]
        have htb : 0 ≤ txtD s n ∧ txtD s n ≤ 1 := by unfold txtD; split <;> omega
        rcases ih (i + 1) hr hil v2 _ _ _ T4 hI4 (by simp; omega) (by omega) (by omega) (by omega) (by omega) with ⟨h1, T', h2, h3⟩ | ⟨h1, kv', T', h2, h3⟩
        · exact .inl ⟨fun h => h1 fun z hz => h z (List.mem_cons_of_mem _ hz), T', hk4 _ h2, h3⟩
        · refine .inr ⟨fun z hz k' n' hk hn => ?_, kv', T', ?_, fun R hR => hk4 _ (h3 R hR)⟩
          · rcases List.mem_cons.1 hz with rfl | hz
            · rw [hp] at hk; cases hk; rw [gn] at hn; cases hn; exact ht
            · exact h1 z hz k' n' hk hn
          · simp only [keptF, hp, List.map_cons, sumI, hpa, hpt]
            rw [← Int.add_assoc, ← Int.add_assoc, show acc ++ (i, k) :: keptF news r (i + 1) = acc ++ [(i, k)] ++ keptF news r (i + 1) by simp]
            exact h2
      · refine .inl ⟨fun h => ht (h s (by simp) k n hp gn), T, key _ ?_, hI.up, hI.cl⟩
        rw [if_pos (by simpa using ht)]
end Go.Abs
