/- ExprNests returns true for every two whole numbers and leaves its arguments as they were: where the package-level variables that the row lists stand as it lists them. -/
import Derived.Test.YtldmjmhmckogkaaDoorZB
import Derived.IntWalk
import Derived.SizedLaws
import Derived.JoinedOf
import Derived.ChangeBears
import Derived.Carry
import Derived.JoinedCond
import Derived.Deep.CondSized
import Derived.OpenShut
import Derived.Laws.StandIn
import Derived.Lib.Bytealg
import Derived.Lib.LaidTab
import Derived.Lib.ItoaNum
import Derived.Test.YtldmjmhmckogkaaDoorProg
import Derived.KernelRfl
set_option linter.unusedVariables false
set_option linter.unusedSimpArgs false
set_option linter.unusedSectionVars false
namespace Go.Abs
open Go
def Ev {α : Type} (x : Option α) (y : Nat → Option α) : Prop := ∀ r, x = some r → ∃ N, ∀ n, N ≤ n → y n = some r
theorem Ev.const {α : Type} (x : Option α) : Ev x fun _ => x := fun r h => ⟨0, fun _ _ => h⟩
theorem Ev.bind {α β : Type} {x : Option α} {y : Nat → Option α} {k : α → Option β} {k' : Nat → α → Option β} (h : Ev x y) (hk : ∀ a, Ev (k a) fun n => k' n a) : Ev (x.bind k) fun n => (y n).bind (k' n) := by
 intro r hr
 obtain ⟨a, ha, h2⟩ := Option.bind_eq_some_iff.1 hr
 obtain ⟨N, hN⟩ := h a ha
 obtain ⟨M, hM⟩ := hk a r h2
 exact ⟨max N M, fun n hn => by show (y n).bind (k' n) = _; rw [hN n (by omega)]; exact hM n (by omega)⟩
theorem Ev.map {α β : Type} {x : Option α} {y : Nat → Option α} (k : α → β) (h : Ev x y) : Ev (x.map k) fun n => (y n).map k := by
 intro r hr
 obtain ⟨a, ha, rfl⟩ := Option.map_eq_some_iff.1 hr
 obtain ⟨N, hN⟩ := h a ha
 exact ⟨N, fun n hn => by show (y n).map k = _; rw [hN n hn]; rfl⟩
theorem Ev.ite {α : Type} {c : Prop} [Decidable c] {x x' : Option α} {y y' : Nat → Option α} (h : Ev x y) (h' : Ev x' y') : Ev (if c then x else x') fun n => if c then y n else y' n := by
 by_cases hc : c
 ·simp only [if_pos hc]; exact h
 ·simp only [if_neg hc]; exact h'
section
variable {P : Program} {H : Hints} {callF : CallF0} {E : Nat → CallF0}
theorem ev_stepV {f : FuncId} {base : Nat} (hE : ∀ g a s, Ev (callF g a s) fun n => E n g a s) (o : Oper) (ev : Operand → Option AV) (st : St) : Ev (stepV P H callF f base o ev st) fun n => stepV P H (E n) f base o ev st := by
 unfold stepV
 cases callOf H ev o.op with
 |none => exact .const _
 |some x =>
  cases x with
  |none => exact .const _
  |some ga => exact (hE ga.1 ga.2 st).map _
theorem ev_opsA {f : FuncId} {base : Nat} {ops : Array Oper} (hE : ∀ g a s, Ev (callF g a s) fun n => E n g a s) : ∀ (l : List Oper) (loc : Env) (fr : Fr) (st : St), Ev (opsA P H callF f base ops l loc fr st) fun n => opsA P H (E n) f base ops l loc fr st
 |[], loc, fr, st => .const _
 |o :: l, loc, fr, st => by
  simp only [opsA]
  refine (Ev.const _).bind fun w => .ite ((ev_stepV hE o _ st).bind fun q => ?_) (ev_opsA hE l _ _ st)
  obtain ⟨res, s⟩ := q
  cases res with
  |pan v => exact .const _
  |_ => exact (Ev.const _).bind fun l' => ev_opsA hE l _ _ _
theorem ev_opsD {f : FuncId} {base : Nat} {ops : Array Oper} (hE : ∀ g a s, Ev (callF g a s) fun n => E n g a s) : ∀ (l : List Oper) (loc : Env) (fr : Fr) (st : St) (tr : List St) (k : Nat), Ev (opsD P H callF f base ops l loc fr st tr k) fun n => opsD P H (E n) f base ops l loc fr st tr k
 |[], loc, fr, st, tr, k => .const _
 |o :: l, loc, fr, st, tr, k => by
  simp only [opsD]
  refine (Ev.const _).bind fun w => .ite ((ev_stepV hE o _ st).bind fun q => ?_) (ev_opsD hE l _ _ st _ _)
  obtain ⟨res, s⟩ := q
  cases res with
  |pan v => exact .const _
  |_ => exact (Ev.const _).bind fun l' => ev_opsD hE l _ _ _ _ _
theorem ev_region {f : FuncId} {base id : Nat} {ops : Array Oper} {draw : Bool} (hE : ∀ g a s, Ev (callF g a s) fun n => E n g a s) (fr : Fr) (st : St) : Ev (regionA P H callF f base id ops draw fr st) fun n => regionA P H (E n) f base id ops draw fr st := by
 unfold regionA
 exact .ite ((ev_opsD hE _ _ _ _ _ _).bind fun _ => .const _) (ev_opsA hE _ _ _ _)
variable {f : FuncId} {base : Nat} {again : AgainF0} {G : Nat → AgainF0}
theorem ev_exec (hE : ∀ g a s, Ev (callF g a s) fun n => E n g a s) (hG : ∀ t fr s, Ev (again t fr s) fun n => G n t fr s) : ∀ (c : Code) (fr : Fr) (st : St), Ev (execA P H callF again f base c fr st) fun n => execA P H (E n) (G n) f base c fr st
 | .skip, fr, st => .const _
 | .label _, fr, st => .const _
 | .region id ops draw, fr, st => ev_region hE fr st
 | .seq a b, fr, st => by
  simp only [execA]
  refine (ev_exec hE hG a fr st).bind fun q => ?_
  obtain ⟨ax, fr', st'⟩ := q
  cases ax with
  |normal => exact ev_exec hE hG b _ _
  |_ => exact .const _
 | .cond c a b, fr, st => by
  simp only [execA]
  refine (Ev.const _).bind fun v => ?_
  cases v <;> first | exact .const _ | exact .ite (ev_exec hE hG a fr st) (ev_exec hE hG b fr st)
 | .block id body, fr, st => by simp only [execA]; exact (ev_exec hE hG body fr st).map _
 | .loop body, fr, st => by
  simp only [execA]
  refine (ev_exec hE hG body fr st).bind fun q => ?_
  obtain ⟨ax, fr', st'⟩ := q
  cases ax with
  |normal => exact (Ev.const _).bind fun e => hG _ _ _
  |_ => exact .const _
 | .scope body, fr, st => by
  simp only [execA]
  refine (ev_exec hE hG body fr st).bind fun q => ?_
  obtain ⟨ax, fr', st'⟩ := q
  cases ax with
  |goto l =>
   simp only
   cases findLabel body l with
   |some rest => exact hG _ _ _
   |none => exact .const _
  |_ => exact .const _
 | .exit id, fr, st => .const _
 | .goto l, fr, st => .const _
 | .ret, fr, st => .const _
 | .rangeFunc .., fr, st => .const _
 | .refuse _, fr, st => .const _
theorem ev_task (hE : ∀ g a s, Ev (callF g a s) fun n => E n g a s) (hG : ∀ t fr s, Ev (again t fr s) fun n => G n t fr s) (t : Task) (fr : Fr) (st : St) : Ev (taskA P H callF again f base t fr st) fun n => taskA P H (E n) (G n) f base t fr st := by
 cases t with
 |code c => exact ev_exec hE hG c fr st
 |round body => exact ev_exec hE hG (.loop body) fr st
 |resume body rest =>
  simp only [taskA]
  refine (ev_exec hE hG rest fr st).bind fun q => ?_
  obtain ⟨ax, fr', st'⟩ := q
  cases ax with
  |goto l =>
   simp only
   cases findLabel body l with
   |some rest => exact hG _ _ _
   |none => exact .const _
  |_ => exact .const _
theorem ev_opsS {ops : Array Oper} (hE : ∀ g a s, Ev (callF g a s) fun n => E n g a s) : ∀ (l : List Oper) (loc : Env) (fr : Fr) (st : St) (m : AMode), Ev (opsS P H callF f base ops l loc fr st m) fun n => opsS P H (E n) f base ops l loc fr st m
 |[], loc, fr, st, m => .const _
 |o :: l, loc, fr, st, m => by
  simp only [opsS]
  refine (Ev.const _).bind fun w => .ite ?_ (ev_opsS hE l _ _ st m)
  split
  ·cases m with
   |pan v => exact ev_opsS hE l _ _ _ _
   |_ => exact ev_opsS hE l _ _ _ _
  ·refine (ev_stepV hE o _ st).bind fun q => ?_
   obtain ⟨res, s⟩ := q
   cases res with
   |pan v => exact .const _
   |_ => exact (Ev.const _).bind fun l' => ev_opsS hE l _ _ _ _
theorem ev_execS (hE : ∀ g a s, Ev (callF g a s) fun n => E n g a s) (hG : ∀ t fr s, Ev (again t fr s) fun n => G n t fr s) : ∀ (c : Code) (fr : Fr) (st : St) (m : AMode), Ev (execS P H callF again f base c fr st m) fun n => execS P H (E n) (G n) f base c fr st m := by
 intro c
 have plain : ∀ (c : Code) (fr : Fr) (st : St) (m : AMode), Ev ((execA P H callF again f base c fr st).map fun r => (r.1, r.2.1, r.2.2, m)) fun n => (execA P H (E n) (G n) f base c fr st).map fun r => (r.1, r.2.1, r.2.2, m) := fun c fr st m => (ev_exec hE hG c fr st).map _
 induction c with
 |region id ops draw =>
  intro fr st m
  simp only [execS]
  exact .ite ((ev_region hE fr st).map _) (ev_opsS hE _ _ _ _ _)
 |seq a b iha ihb =>
  intro fr st m
  simp only [execS]
  refine (iha fr st m).bind fun q => ?_
  obtain ⟨ax, fr', st', m'⟩ := q
  cases ax with
  |normal => exact ihb _ _ _
  |_ => exact .const _
 |cond c a b iha ihb =>
  intro fr st m
  simp only [execS]
  refine (Ev.const _).bind fun v => ?_
  cases v <;> first | exact .const _ | exact .ite (iha fr st m) (ihb fr st m)
 |_ => intro fr st m; exact plain _ fr st m
end
section
variable {P : Program} {H : Hints} {callF : CallF0} {E : Nat → CallF0} {again : FuncId → Nat → AgainF0} {G : Nat → FuncId → Nat → AgainF0}
theorem ev_callD (hE : ∀ g a s, Ev (callF g a s) fun n => E n g a s) (hG : ∀ f b t fr s, Ev (again f b t fr s) fun n => G n f b t fr s) (g : FuncId) (args : List AV) (st : St) (m : AMode) :
  Ev (callDA P H callF again g args st m) fun n => callDA P H (E n) (G n) g args st m := by
 unfold callDA
 refine (Ev.const _).bind fun fn => (Ev.const _).bind fun c => .ite (Ev.bind (.ite (ev_execS hE (hG g st.length) c _ _ m) ((ev_exec hE (hG g st.length) c _ _).map _)) fun q => .const _) (.const _)
theorem ev_leave {callD : FuncId → List AV → St → AMode → Option (AOut × St × AMode)} {D : Nat → FuncId → List AV → St → AMode → Option (AOut × St × AMode)} (hD : ∀ g a s m, Ev (callD g a s m) fun n => D n g a s m) (fn : Func) (env : Env) :
  ∀ (ds : List (FuncId × List AV)) (m : AMode) (st : St), Ev (leaveA P callD fn env ds m st) fun n => leaveA P (D n) fn env ds m st
 |[], m, st => by cases m <;> exact .const _
 |(g, args) :: ds, m, st => by
  simp only [leaveA]
  refine (hD g args st m).bind fun q => ?_
  obtain ⟨o, s, m'⟩ := q
  cases o with
  |ret v => exact ev_leave hD fn env ds _ _
  |pan v =>
   cases m' with
   |ret => exact ev_leave hD fn env ds _ _
   |_ => exact .const _
theorem ev_call (hE : ∀ g a s, Ev (callF g a s) fun n => E n g a s) (hG : ∀ f b t fr s, Ev (again f b t fr s) fun n => G n f b t fr s) (g : FuncId) (args : List AV) (st : St) : Ev (callA P H callF again g args st) fun n => callA P H (E n) (G n) g args st := by
 unfold callA
 cases H.prim g with
 |some F => exact .const _
 |none =>
  simp only
  refine (Ev.const _).bind fun fn => (Ev.const _).bind fun c => .ite ((ev_exec hE (hG g st.length) c _ _).bind fun q => Ev.bind ?_ fun o => .const _) (.const _)
  obtain ⟨ax, fr', st'⟩ := q
  cases ax with
  |normal => exact ev_leave (ev_callD hE hG) fn _ _ _ _
  |ret => exact ev_leave (ev_callD hE hG) fn _ _ _ _
  |panic v => exact ev_leave (ev_callD hE hG) fn _ _ _ _
  |_ => exact .const _
end
section
variable (P : Program) (H : Hints)
theorem levels_step : ∀ n, (∀ g a s r, (levels P H n).1 g a s = some r → (levels P H (n + 1)).1 g a s = some r) ∧ ∀ f b t fr s r, (levels P H n).2 f b t fr s = some r → (levels P H (n + 1)).2 f b t fr s = some r
 | 0 => ⟨fun g a s r h => by simp [levels] at h, fun f b t fr s r h => by simp [levels] at h⟩
 |n + 1 => by
  obtain ⟨h1, h2⟩ := levels_step n
  have hE : ∀ g a s, Ev ((levels P H n).1 g a s) fun _ : Nat => (levels P H (n + 1)).1 g a s := fun g a s r h => ⟨0, fun _ _ => h1 g a s r h⟩
  have hG : ∀ f b t fr s, Ev ((levels P H n).2 f b t fr s) fun _ : Nat => (levels P H (n + 1)).2 f b t fr s := fun f b t fr s r h => ⟨0, fun _ _ => h2 f b t fr s r h⟩
  exact ⟨fun g a s r h => (ev_call (E := fun _ => (levels P H (n + 1)).1) (G := fun _ => (levels P H (n + 1)).2) hE hG g a s r h).elim fun N h => h N (Nat.le_refl N),
   fun f b t fr s r h => (ev_task (E := fun _ => (levels P H (n + 1)).1) (G := fun _ => (levels P H (n + 1)).2 f b) hE (hG f b) t fr s r h).elim fun N h => h N (Nat.le_refl N)⟩
theorem levels_mono {n m : Nat} (h : n ≤ m) : (∀ g a s r, (levels P H n).1 g a s = some r → (levels P H m).1 g a s = some r) ∧ ∀ f b t fr s r, (levels P H n).2 f b t fr s = some r → (levels P H m).2 f b t fr s = some r := by
 induction m with
 |zero => rw [show n = 0 by omega]; exact ⟨fun _ _ _ _ h => h, fun _ _ _ _ _ _ h => h⟩
 |succ m ih =>
  by_cases e : n = m + 1
  ·subst e; exact ⟨fun _ _ _ _ h => h, fun _ _ _ _ _ _ h => h⟩
  ·obtain ⟨h1, h2⟩ := ih (by omega)
   obtain ⟨h3, h4⟩ := levels_step P H m
   exact ⟨fun g a s r h => h3 g a s r (h1 g a s r h), fun f b t fr s r h => h4 f b t fr s r (h2 f b t fr s r h)⟩
noncomputable def limW {α : Type} (s : Nat → Option α) : Option α := open Classical in if h : ∃ n r, s n = some r then some (Classical.choose (Classical.choose_spec h)) else none
theorem limW_some {α : Type} {s : Nat → Option α} {r : α} (h : limW s = some r) : ∃ n, s n = some r := by
 unfold limW at h
 split at h
 ·rename_i hh
  simp only [Option.some.injEq] at h
  exact ⟨Classical.choose hh, by rw [← h]; exact Classical.choose_spec (Classical.choose_spec hh)⟩
 ·simp at h
theorem limW_of {α : Type} {s : Nat → Option α} {r : α} {n : Nat} (hm : ∀ n m r, n ≤ m → s n = some r → s m = some r) (h : s n = some r) : limW s = some r := by
 have hh : ∃ n r, s n = some r := ⟨n, r, h⟩
 unfold limW
 rw [dif_pos hh]
 have h2 := Classical.choose_spec (Classical.choose_spec hh)
 have h3 := hm _ (max n (Classical.choose hh)) _ (by omega) h2
 have h4 := hm _ (max n (Classical.choose hh)) _ (by omega) h
 rw [h4] at h3
 exact h3.symm
noncomputable def callW (g : FuncId) (args : List AV) (st : St) : Option (AOut × St) := limW fun n => callN P H n g args st
noncomputable def runW (f : FuncId) (base : Nat) (t : Task) (fr : Fr) (st : St) : Option (AX × Fr × St) := limW fun n => runN P H n f base t fr st
variable {P H}
theorem callW_ev (g : FuncId) (a : List AV) (s : St) : Ev (callW P H g a s) fun n => (levels P H n).1 g a s := fun r h => by
 obtain ⟨N, hN⟩ := limW_some h
 exact ⟨N, fun n hn => (levels_mono P H hn).1 g a s r hN⟩
theorem runW_ev (f : FuncId) (b : Nat) (t : Task) (fr : Fr) (s : St) : Ev (runW P H f b t fr s) fun n => (levels P H n).2 f b t fr s := fun r h => by
 obtain ⟨N, hN⟩ := limW_some h
 exact ⟨N, fun n hn => (levels_mono P H hn).2 f b t fr s r hN⟩
theorem callW_of_call {g : FuncId} {args : List AV} {st : St} {r : AOut × St} (h : callA P H (callW P H) (runW P H) g args st = some r) : callW P H g args st = some r := by
 obtain ⟨N, hN⟩ := ev_call callW_ev runW_ev g args st r h
 exact limW_of (n := N + 1) (fun n m r hnm h => (levels_mono P H hnm).1 g args st r h) (hN N (Nat.le_refl N))
theorem runW_of_task {f : FuncId} {b : Nat} {t : Task} {fr : Fr} {st : St} {r : AX × Fr × St} (h : taskA P H (callW P H) (runW P H f b) f b t fr st = some r) : runW P H f b t fr st = some r := by
 obtain ⟨N, hN⟩ := ev_task callW_ev (runW_ev f b) t fr st r h
 exact limW_of (n := N + 1) (fun n m r hnm h => (levels_mono P H hnm).2 f b t fr st r h) (hN N (Nat.le_refl N))
theorem callW_some {g : FuncId} {args : List AV} {st : St} {r : AOut × St} (h : callW P H g args st = some r) : ∃ n, callN P H n g args st = some r := limW_some h
theorem runW_exec {f : FuncId} {b : Nat} {body : Code} {fr : Fr} {st : St} {q : AX × Fr × St} (h : runW P H f b (.round body) fr st = some q) : execA P H (callW P H) (runW P H f b) f b (.loop body) fr st = some q := by
 obtain ⟨N, hN⟩ := limW_some h
 have hN2 := (levels_mono P H (Nat.le_succ N)).2 f b (.round body) fr st q hN
 have hE : ∀ g a s, Ev ((levels P H N).1 g a s) fun _ : Nat => callW P H g a s := fun g a s r h => ⟨0, fun _ _ => limW_of (n := N) (fun n m r hnm h => (levels_mono P H hnm).1 g a s r h) h⟩
 have hG : ∀ t fr s, Ev ((levels P H N).2 f b t fr s) fun _ : Nat => runW P H f b t fr s := fun t fr s r h => ⟨0, fun _ _ => limW_of (n := N) (fun n m r hnm h => (levels_mono P H hnm).2 f b t fr s r h) h⟩
 obtain ⟨M, hM⟩ := ev_exec (E := fun _ => callW P H) (G := fun _ => runW P H f b) hE hG (.loop body) fr st q hN2
 exact hM M (Nat.le_refl M)
theorem callW_of {g : FuncId} {args : List AV} {st : St} {r : AOut × St} (h : callK P H (callW P H) (runW P H) g args st = some r) : callW P H g args st = some r :=
 callW_of_call (callK_le (fun f base body fr st q h => runW_exec h) h)
theorem roundV_eq {f : FuncId} {body : Code} {n : Nat} {fr : Fr} {st : St} {e : Fr × St} (hk : H.loopKeep f = false) (h : roundV n (liveF H f body fr) st = some e) : roundEndL H f body n fr st = some e := by
 have hd : (liveF H f body fr).defers = fr.defers := by unfold liveF; split <;> rfl
 unfold roundV at h
 unfold roundEndL roundEnd
 rw [hk]
 simp only [Bool.false_or]
 split at h
 ·rename_i hl
  rw [if_pos hl]
  exact h
 ·rename_i hl
  rw [if_neg hl]
  rw [hd] at h
  split at h
  ·rename_i hc
   rw [if_pos hc]
   simp only [Option.some.injEq] at h
   subst h
   simp only [Option.map_some, Option.some.injEq, Prod.mk.injEq, and_true]
   unfold liveF
   split
   ·rfl
   ·simp only [List.filter_filter]
    congr 1
    apply List.filter_congr
    intro p _
    exact Bool.and_comm _ _
  ·simp at h
theorem roundW_of {R : Type} {f : FuncId} {b : Nat} {body : Code} {fr : Fr} {st : St} {k : AX → Fr → St → Option R} {r : R}
  (h : execK P H (callW P H) (runW P H f b) f b body fr st (loopK H (runW P H f b) f body st.length k) = some r) : headB (runW P H f b (.round body) fr st) k = some r := by
 obtain ⟨q, hq, h2⟩ := execK_le (fun body fr st q h => runW_exec h) h
 obtain ⟨ax, fr', st'⟩ := q
 have key : ∀ {x : AX × Fr × St}, (match (generalizing := false) ax with | .normal => (roundEndL H f body st.length fr' st').bind fun e => runW P H f b (.round body) e.1 e.2 | _ => some (ax, fr', st')) = some x → runW P H f b (.round body) fr st = some x := by
  intro x hx
  refine runW_of_task ?_
  simp only [taskA, execA, hq, Option.bind_some]
  exact hx
 unfold loopK at h2
 cases ax with
 |normal =>
  simp only at h2 key
  split at h2
  ·rename_i hk
   obtain ⟨x, hx, h3⟩ := headB_some h2
   have : roundEndL H f body st.length fr' st' = some (liveF H f body fr', st') := by
    unfold roundEndL roundEnd
    rw [hk]; rfl
   rw [this] at key
   simp only [Option.bind_some] at key
   rw [key hx]; exact h3
  ·rename_i hk
   obtain ⟨e, he, h3⟩ := Option.bind_eq_some_iff.1 h2
   obtain ⟨x, hx, h4⟩ := headB_some h3
   rw [roundV_eq (by simpa using hk) he] at key
   simp only [Option.bind_some] at key
   rw [key hx]; exact h4
 |exit i => rw [key rfl]; exact h2
 |goto i => rw [key rfl]; exact h2
 |ret => rw [key rfl]; exact h2
 |panic v => rw [key rfl]; exact h2
theorem resumeW_of {R : Type} {f : FuncId} {b : Nat} {body rest : Code} {fr : Fr} {st : St} {k : AX → Fr → St → Option R} {r : R}
  (h : execK P H (callW P H) (runW P H f b) f b rest fr st (scopeK (runW P H f b) body k) = some r) : headB (runW P H f b (.resume body rest) fr st) k = some r := by
 obtain ⟨q, hq, h2⟩ := execK_le (fun body fr st q h => runW_exec h) h
 obtain ⟨ax, fr', st'⟩ := q
 have key : ∀ {x : AX × Fr × St}, (match (generalizing := false) ax with | .goto l => (match findLabel body l with | some rest => runW P H f b (.resume body rest) fr' st' | none => some (ax, fr', st')) | _ => some (ax, fr', st')) = some x → runW P H f b (.resume body rest) fr st = some x := by
  intro x hx
  refine runW_of_task ?_
  simp only [taskA, hq, Option.bind_some]
  exact hx
 unfold scopeK at h2
 cases ax with
 |goto l =>
  simp only at h2 key
  split at h2
  ·rename_i rest' hf
   obtain ⟨x, hx, h3⟩ := headB_some h2
   rw [hf] at key
   rw [key hx]; exact h3
  ·rename_i hf
   rw [hf] at key
   rw [key rfl]; exact h2
 |exit i => rw [key rfl]; exact h2
 |normal => rw [key rfl]; exact h2
 |ret => rw [key rfl]; exact h2
 |panic v => rw [key rfl]; exact h2
end
end Go.Abs
namespace Go.Abs
open Go
inductive Dir where
 |sl | sr | ca | cb | bk | sc
 |lp (n : Nat)
def codeAt : Code → List Dir → Option Code
 |c, [] => some c
 | .seq a _, .sl :: p => codeAt a p
 | .seq _ b, .sr :: p => codeAt b p
 | .cond _ a _, .ca :: p => codeAt a p
 | .cond _ _ b, .cb :: p => codeAt b p
 | .block _ b, .bk :: p => codeAt b p
 | .loop b, .lp _ :: p => codeAt b p
 | .scope b, .sc :: p => codeAt b p
 |_, _ => none
section
variable {R : Type} (P : Program) (H : Hints) (callF : CallF0) (again : AgainF0) (f : FuncId) (base : Nat)
def seqK (b : Code) (k : AX → Fr → St → Option R) : AX → Fr → St → Option R := fun ax fr st => match ax with | .normal => execK P H callF again f base b (liveF H f b fr) st k | ax => k ax fr st
def blockK (id : Nat) (k : AX → Fr → St → Option R) : AX → Fr → St → Option R := fun ax fr st => match ax with | .exit i => if i = id then k .normal fr st else k (.exit i) fr st | ax => k ax fr st
def kontAt : Code → List Dir → (AX → Fr → St → Option R) → AX → Fr → St → Option R
 | .seq a b, .sl :: p, k => kontAt a p (seqK P H callF again f base b k)
 | .seq _ b, .sr :: p, k => kontAt b p k
 | .cond _ a _, .ca :: p, k => kontAt a p k
 | .cond _ _ b, .cb :: p, k => kontAt b p k
 | .block id b, .bk :: p, k => kontAt b p (blockK id k)
 | .loop b, .lp n :: p, k => kontAt b p (loopK H again f b n k)
 | .scope b, .sc :: p, k => kontAt b p (scopeK again b k)
 |_, _, k => k
end
section
variable (P : Program) (H : Hints)
noncomputable def atW (g : FuncId) (base : Nat) (p : List Dir) (fr : Fr) (st : St) : Option (AOut × St) :=
 (P.funcs[g]?).bind fun fn => fn.body.bind fun c => (codeAt c p).bind fun d =>
 execK P H (callW P H) (runW P H g base) g base d fr st (kontAt P H (callW P H) (runW P H g base) g base c p (endK P H (callW P H) (runW P H) g fn base))
noncomputable def atL (g : FuncId) (base : Nat) (p : List Dir) (fr : Fr) (st : St) : Option (AOut × St) :=
 (P.funcs[g]?).bind fun fn => fn.body.bind fun c => (codeAt c p).bind fun d => match d with
 | .loop body => execK P H (callW P H) (runW P H g base) g base body fr st (loopK H (runW P H g base) g body st.length (kontAt P H (callW P H) (runW P H g base) g base c p (endK P H (callW P H) (runW P H) g fn base)))
 |_ => none
variable {P H}
theorem atW_of {g : FuncId} {base : Nat} {p : List Dir} {fr : Fr} {st : St} {r : AOut × St} (h : atL P H g base p fr st = some r) : atW P H g base p fr st = some r := by
 unfold atL at h
 unfold atW
 obtain ⟨fn, hfn, h2⟩ := Option.bind_eq_some_iff.1 h
 obtain ⟨c, hc, h3⟩ := Option.bind_eq_some_iff.1 h2
 obtain ⟨d, hd, h4⟩ := Option.bind_eq_some_iff.1 h3
 simp only [hfn, hc, hd, Option.bind_some]
 split at h4
 ·exact roundW_of h4
 ·simp at h4
noncomputable def atG (g : FuncId) (base : Nat) (p : List Dir) (l : Nat) (fr : Fr) (st : St) : Option (AOut × St) :=
 (P.funcs[g]?).bind fun fn => fn.body.bind fun c => (codeAt c p).bind fun d => match d with
 | .scope body => (findLabel body l).bind fun rest => headB (runW P H g base (.resume body rest) fr st) (kontAt P H (callW P H) (runW P H g base) g base c p (endK P H (callW P H) (runW P H) g fn base))
 |_ => none
noncomputable def atH (g : FuncId) (base : Nat) (p : List Dir) (l : Nat) (fr : Fr) (st : St) : Option (AOut × St) :=
 (P.funcs[g]?).bind fun fn => fn.body.bind fun c => (codeAt c p).bind fun d => match d with
 | .scope body => (findLabel body l).bind fun rest => execK P H (callW P H) (runW P H g base) g base rest fr st (scopeK (runW P H g base) body (kontAt P H (callW P H) (runW P H g base) g base c p (endK P H (callW P H) (runW P H) g fn base)))
 |_ => none
theorem atG_of {g : FuncId} {base : Nat} {p : List Dir} {l : Nat} {fr : Fr} {st : St} {r : AOut × St} (h : atH (P := P) (H := H) g base p l fr st = some r) : atG (P := P) (H := H) g base p l fr st = some r := by
 unfold atH at h
 unfold atG
 obtain ⟨fn, hfn, h2⟩ := Option.bind_eq_some_iff.1 h
 obtain ⟨c, hc, h3⟩ := Option.bind_eq_some_iff.1 h2
 obtain ⟨d, hd, h4⟩ := Option.bind_eq_some_iff.1 h3
 simp only [hfn, hc, hd, Option.bind_some]
 split at h4
 ·obtain ⟨rest, hr, h5⟩ := Option.bind_eq_some_iff.1 h4
  simp only [hr, Option.bind_some]
  exact resumeW_of h5
 ·simp at h4
end
end Go.Abs
namespace Go.Abs
open Go
def isRec : Op → Bool
 | .call { callee := .builtin .recover, .. } => true
 |_ => false
section run
variable {R : Type} (P : Program) (H : Hints) (callF : CallF0) (again : AgainF0) (f : FuncId) (base : Nat)
def opsSK (ops : Array Oper) : List Oper → Env → Fr → St → AMode → (AX → Fr → St → AMode → Option R) → Option R
 |[], _, fr, st, m, k => k .normal fr st m
 |o :: rest, loc, fr, st, m, k =>
  guardK ops loc fr o
   (fun loc fr => if isRec o.op then
     (match m with
     | .pan v => putK H f o.dst v loc fr fun loc fr => opsSK ops rest loc fr st (.recd v) k
     |m => putK H f o.dst .nili loc fr fun loc fr => opsSK ops rest loc fr st m k)
    else stepK P H callF f base (evO H loc fr.env) st o.dst
     (fun v st => typK P o.type v fun v => landK H f o.dst v st loc fr fun loc fr st => opsSK ops rest loc fr st m k)
     (fun st => putK H f o.dst undefA loc fr fun loc fr => opsSK ops rest loc fr st m k)
     (fun g xa0 st => putK H f o.dst undefA loc fr fun loc fr => opsSK ops rest loc { fr with defers := (g, xa0) :: fr.defers } st m k)
     (fun v st => k (.panic v) fr st m) o)
   (fun loc fr => putK H f o.dst undefA loc fr fun loc fr => opsSK ops rest loc fr st m k)
def execSK : Code → Fr → St → AMode → (AX → Fr → St → AMode → Option R) → Option R
 | .region id ops draw, fr, st, m, k => if draw then regionK P H callF f base id ops draw fr st (fun ax fr st => k ax fr st m) else opsSK P H callF f base ops ops.toList [] fr st m k
 | .seq a b, fr, st, m, k => execSK a fr st m fun ax fr st m => match ax with | .normal => execSK b fr st m k | ax => k ax fr st m
 | .cond c a b, fr, st, m, k => (evO H [] fr.env c).bind fun v => match c with
  | .tmp t => condB v (fun v => execSK a { fr with env := reput fr.env t v } st m k) (fun v => execSK b { fr with env := reput fr.env t v } st m k)
  |_ => condB v (fun _ => execSK a fr st m k) (fun _ => execSK b fr st m k)
 |c, fr, st, m, k => execK P H callF again f base c fr st (fun ax fr st => k ax fr st m)
end run
def outM (x : Option (AOut × St)) (m : AMode) : Option (AOut × St × AMode) := x.map fun o => (o.1, o.2, m)
section call
variable (P : Program) (H : Hints) (callF : CallF0) (again : FuncId → Nat → AgainF0)
def endDK (g : FuncId) (fn : Func) (base : Nat) : AX → Fr → St → AMode → Option (AOut × St × AMode) := fun ax fr st m =>
 if fr.defers.isEmpty then
  match ax with
  | .normal | .ret => (resultsA P fr.env st fn.results.toList).bind fun vs => outM (outL (H.keepObj g) base (.ret (outV1 vs)) st) m
  | .panic v => outM (outL (H.keepObj g) base (.pan v) st) m
  |_ => none
 else none
def callDK (g : FuncId) (args : List AV) (st : St) (m : AMode) : Option (AOut × St × AMode) :=
 (P.funcs[g]?).bind fun fn => fn.body.bind fun c =>
 if args.length ≤ fn.params.size + fn.nfree then
  if H.recov g then execSK P H callF (again g st.length) g st.length c ⟨entry args, []⟩ (homesA (H.homes g) st) m (endDK P H g fn st.length)
  else execK P H callF (again g st.length) g st.length c ⟨entry args, []⟩ (homesA (H.homes g) st) fun ax fr st' => endDK P H g fn st.length ax fr st' m
 else none
end call
section
variable {R : Type} {P : Program} {H : Hints} {callF : CallF0} {again : AgainF0} {f : FuncId} {base : Nat} {r : R}
theorem opsSK_le {ops : Array Oper} {k : AX → Fr → St → AMode → Option R} : ∀ {l : List Oper} {loc : Env} {fr : Fr} {st : St} {m : AMode}, opsSK P H callF f base ops l loc fr st m k = some r → ∃ q, opsS P H callF f base ops l loc fr st m = some q ∧ k q.1 q.2.1 q.2.2.1 q.2.2.2 = some r
 |[], loc, fr, st, m, h => ⟨(.normal, fr, st, m), rfl, h⟩
 |o :: rest, loc, fr, st, m, h => by
  simp only [opsSK] at h
  obtain ⟨b, hb, h2⟩ := guardK_some h
  simp only [opsS, hb, Option.bind_some]
  cases b with
  |false =>
   simp only [Bool.false_eq_true, if_false] at h2 ⊢
   exact opsSK_le (putK_some h2)
  |true =>
   simp only [if_true] at h2 ⊢
   split
   ·rename_i hop
    have hr : isRec o.op = true := by rw [hop]; rfl
    rw [if_pos hr] at h2
    cases m with
    |pan v => exact opsSK_le (putK_some h2)
    |ret => exact opsSK_le (putK_some h2)
    |recd v => exact opsSK_le (putK_some h2)
   ·rename_i hop
    have hr : ¬ isRec o.op = true := by
     intro hr
     unfold isRec at hr
     split at hr
     ·rename_i hq; simp [hq] at hop
     ·cases hr
    rw [if_neg hr] at h2
    obtain ⟨q, hq, h3⟩ := stepK_le h2
    simp only [stepA, hq, Option.bind_some]
    obtain ⟨res, s⟩ := q
    cases res with
    |pan v => exact ⟨_, rfl, h3⟩
    |val v =>
     obtain ⟨l, hl, h4⟩ := landK_some (typK_some (show typK P o.type v (fun v => landK H f o.dst v s loc fr (fun loc fr st => opsSK P H callF f base ops rest loc fr st m k)) = some r from h3))
     simp only [hl, Option.bind_some]
     exact opsSK_le h4
    |skip =>
     have h4 := putK_some (show putK H f o.dst undefA loc fr (fun loc fr => opsSK P H callF f base ops rest loc fr s m k) = some r from h3)
     simp only [landA, Option.bind_some]
     exact opsSK_le h4
    |defer g xa0 =>
     have h4 := putK_some (show putK H f o.dst undefA loc fr (fun loc fr => opsSK P H callF f base ops rest loc { fr with defers := (g, xa0) :: fr.defers } s m k) = some r from h3)
     simp only [landA, Option.bind_some]
     exact opsSK_le h4
theorem execSK_le (hA : ∀ body fr st q, again (.round body) fr st = some q → execA P H callF again f base (.loop body) fr st = some q) : ∀ {c : Code} {fr : Fr} {st : St} {m : AMode} {k : AX → Fr → St → AMode → Option R},
  execSK P H callF again f base c fr st m k = some r → ∃ q, execS P H callF again f base c fr st m = some q ∧ k q.1 q.2.1 q.2.2.1 q.2.2.2 = some r := by
 intro c
 have plain : ∀ {c : Code} {fr : Fr} {st : St} {m : AMode} {k : AX → Fr → St → AMode → Option R}, execK P H callF again f base c fr st (fun ax fr st => k ax fr st m) = some r →
   ∃ q, ((execA P H callF again f base c fr st).map fun r => (r.1, r.2.1, r.2.2, m)) = some q ∧ k q.1 q.2.1 q.2.2.1 q.2.2.2 = some r := by
  intro c fr st m k h
  obtain ⟨q, hq, h2⟩ := execK_le hA h
  exact ⟨_, by rw [hq]; rfl, h2⟩
 induction c with
 |region id ops draw =>
  intro fr st m k h
  simp only [execSK] at h
  simp only [execS]
  split at h
  ·rename_i hd
   rw [if_pos hd]
   obtain ⟨q, hq, h2⟩ := regionK_le h
   exact ⟨_, by rw [hq]; rfl, h2⟩
  ·rename_i hd
   rw [if_neg hd]
   exact opsSK_le h
 |seq a b iha ihb =>
  intro fr st m k h
  simp only [execSK] at h
  obtain ⟨q, hq, h2⟩ := iha h
  simp only [execS, hq, Option.bind_some]
  obtain ⟨ax, fr', st', m'⟩ := q
  cases ax with
  |normal => exact ihb h2
  |_ => exact ⟨_, rfl, h2⟩
 |cond c a b iha ihb =>
  intro fr st m k h
  simp only [execSK] at h
  obtain ⟨v, hv, h2⟩ := Option.bind_eq_some_iff.1 h
  simp only [execS, hv, Option.bind_some]
  have key : ∀ {x y : AV → Option R}, condB v x y = some r → ∃ t, v = .bool t ∧ (if t then x v else y v) = some r := by
   intro x y hxy
   unfold condB at hxy
   split at hxy
   ·rename_i t; cases t <;> exact ⟨_, rfl, hxy⟩
   ·simp at hxy
  split at h2
  ·rename_i t
   obtain ⟨b, rfl, h3⟩ := key h2
   have hg : Env.get fr.env t = some (.bool b) := by simpa [evO, look, Env.get] using hv
   rw [reput_same hg] at h3
   cases b with
   |true => exact iha h3
   |false => exact ihb h3
  ·obtain ⟨b, rfl, h3⟩ := key h2
   cases b with
   |true => exact iha h3
   |false => exact ihb h3
 |_ => intro fr st m k h; exact plain h
end
section
variable {P : Program} {H : Hints} {callF : CallF0} {again : FuncId → Nat → AgainF0}
theorem endDK_le {g : FuncId} {fn : Func} {base : Nat} {q : AX × Fr × St × AMode} {r : AOut × St × AMode} (h : endDK P H g fn base q.1 q.2.1 q.2.2.1 q.2.2.2 = some r) :
  (if q.2.1.defers.isEmpty then
  (match q.1 with
   | .normal | .ret => (resultsA P q.2.1.env q.2.2.1 fn.results.toList).map fun vs => AOut.ret (match vs with | [v] => v | vs => .tup vs)
   | .panic v => some (AOut.pan v)
   |_ => none).bind fun o => (outA H g base o q.2.2.1).map fun (x : AOut × St) => (x.1, x.2, q.2.2.2)
 else none) = some r := by
 unfold endDK at h
 obtain ⟨ax, fr, st, m⟩ := q
 simp only at h ⊢
 split at h
 ·rename_i hd
  rw [if_pos hd]
  cases ax with
  |normal =>
   obtain ⟨vs, hvs, h2⟩ := Option.bind_eq_some_iff.1 h
   simp only [hvs, Option.map_some, Option.bind_some]
   exact h2
  |ret =>
   obtain ⟨vs, hvs, h2⟩ := Option.bind_eq_some_iff.1 h
   simp only [hvs, Option.map_some, Option.bind_some]
   exact h2
  |panic v => exact h
  |exit i => simp at h
  |goto i => simp at h
 ·simp at h
theorem callDK_le (hA : ∀ f base body fr st q, again f base (.round body) fr st = some q → execA P H callF (again f base) f base (.loop body) fr st = some q) {g : FuncId} {args : List AV} {st : St} {m : AMode} {r : AOut × St × AMode}
  (h : callDK P H callF again g args st m = some r) : callDA P H callF again g args st m = some r := by
 unfold callDK at h
 unfold callDA
 obtain ⟨fn, hfn, h2⟩ := Option.bind_eq_some_iff.1 h
 obtain ⟨c, hc, h3⟩ := Option.bind_eq_some_iff.1 h2
 simp only [hfn, hc, Option.bind_some]
 split at h3
 ·rename_i hl
  rw [if_pos hl]
  split at h3
  ·rename_i hr
   rw [if_pos hr]
   obtain ⟨q, hq, h4⟩ := execSK_le (hA g st.length) h3
   rw [hq]
   exact endDK_le h4
  ·rename_i hr
   rw [if_neg hr]
   obtain ⟨q, hq, h4⟩ := execK_le (hA g st.length) h3
   rw [hq]
   exact endDK_le (q := (q.1, q.2.1, q.2.2, m)) h4
 ·simp at h3
theorem callDW_of {g : FuncId} {args : List AV} {st : St} {m : AMode} {r : AOut × St × AMode} (h : callDK P H (callW P H) (runW P H) g args st m = some r) : callDA P H (callW P H) (runW P H) g args st m = some r :=
 callDK_le (fun f base body fr st q h => runW_exec h) h
theorem leave_one {callD : FuncId → List AV → St → AMode → Option (AOut × St × AMode)} {fn : Func} {env : Env} {g : FuncId} {xa0 : List AV} {m m' : AMode} {st st' : St} {v : AV} (h : callD g xa0 st m = some (.ret v, st', m')) :
  leaveA P callD fn env [(g, xa0)] m st = leaveA P callD fn env [] (settleA m') st' := by
 simp only [leaveA, h, Option.bind_some]
theorem leave_ret {callD : FuncId → List AV → St → AMode → Option (AOut × St × AMode)} {fn : Func} {env : Env} {st : St} {vs : List AV} (h : resultsA P env st fn.results.toList = some vs) :
  leaveA P callD fn env [] .ret st = some (.ret (outV1 vs), st) := by
 simp only [leaveA, h, Option.map_some]; rfl
end
end Go.Abs
namespace Go.Abs
open Go
section
variable {R : Type} {kv kp : AV → St → Option R} {v : AV} {s st : St}
@[simp] theorem callB_ret : callB (some (.ret v, s)) kv kp = kv v s := rfl
@[simp] theorem callB_pan : callB (some (.pan v, s)) kv kp = kp v s := rfl
@[simp] theorem bind2_some : bind2 (some (v, s)) kv = kv v s := rfl
@[simp] theorem boolV_bool (b : Bool) : boolV (.bool b) = some b := rfl
@[simp] theorem intV_int (k : IntKind) (n : Int) : intV k (.int k n) = some n := by simp [intV]
@[simp] theorem strV_str (s : List UInt8) : strV (.str s) = some s := rfl
@[simp] theorem extractA_tup (i : Nat) (vs : List AV) : extractA i (.tup vs) = vs[i]? := rfl
@[simp] theorem cell1_int (k : IntKind) (n : Int) : cell1 (.int k n) = some (.int k n) := rfl
@[simp] theorem cell1_str (x : List UInt8) : cell1 (.str x) = some (.str x) := rfl
@[simp] theorem cell1_bool (x : Bool) : cell1 (.bool x) = some (.bool x) := rfl
@[simp] theorem readA_ip1 (x : AV) : readA st (.ip [x] 0) 1 false = some x := rfl
@[simp] theorem natA_nat (k : IntKind) (n : Nat) : natA (.int k (n : Int)) = some n := by simp [natA]
@[simp] theorem outL_same (ko : Bool) (r : AOut) : outL ko st.length r st = some (r, st) := by simp [outL]
@[simp] theorem outL_true (n : Nat) (r : AOut) : outL true n r st = some (r, st) := by simp [outL]
end
mutual
theorem AV.closed_mono {n m : Nat} (h : n ≤ m) (a : AV) (ha : AV.closed n a = true) : AV.closed m a = true := by
 cases a <;> simp only [AV.closed, Bool.and_eq_true, decide_eq_true_eq] at ha ⊢
 all_goals first
  |exact AV.closeds_mono h _ ha
  |exact AV.closedss_mono h _ ha
  |exact AV.closed_mono h _ ha
  |(refine ⟨AV.closedss_mono h _ ha.1, ?_⟩; rename_i tok; have h2 := ha.2; cases tok <;> simp_all <;> omega)
  |omega
  |skip
termination_by structural a
theorem AV.closeds_mono {n m : Nat} (h : n ≤ m) (a : List AV) (ha : AV.closeds n a = true) : AV.closeds m a = true := by
 cases a with
 |nil => rfl
 |cons x r =>
  simp only [AV.closeds, Bool.and_eq_true] at ha ⊢
  exact ⟨AV.closed_mono h _ ha.1, AV.closeds_mono h _ ha.2⟩
termination_by structural a
theorem AV.closedss_mono {n m : Nat} (h : n ≤ m) (a : List (List AV)) (ha : AV.closedss n a = true) : AV.closedss m a = true := by
 cases a with
 |nil => rfl
 |cons x r =>
  simp only [AV.closedss, Bool.and_eq_true] at ha ⊢
  exact ⟨AV.closeds_mono h _ ha.1, AV.closedss_mono h _ ha.2⟩
termination_by structural a
end
theorem AObj.closed_mono {n m : Nat} (h : n ≤ m) {x : AObj} (hx : AObj.closed n x = true) : AObj.closed m x = true := by
 cases x with
 |box ty row => exact AV.closeds_mono h _ hx
 |rows a b rs => exact AV.closedss_mono h _ hx
 |amap es =>
  simp only [AObj.closed, List.all_eq_true, Bool.and_eq_true] at hx ⊢
  exact fun p hp => ⟨AV.closed_mono h _ (hx p hp).1, AV.closed_mono h _ (hx p hp).2⟩
 |_ => rfl
def Cl (st : St) : Prop := St.closed st.length st = true
theorem Cl.nil : Cl [] := rfl
theorem closed_mono {n m : Nat} (h : n ≤ m) {st : St} (hs : St.closed n st = true) : St.closed m st = true := List.all_eq_true.2 fun x hx => AObj.closed_mono h (List.all_eq_true.1 hs x hx)
theorem Cl.cons {x : AObj} {st : St} (h : Cl st) (hx : AObj.closed (st.length + 1) x = true) : Cl (x :: st) := by
 unfold Cl St.closed
 simp only [List.length_cons, List.all_cons, Bool.and_eq_true]
 exact ⟨hx, closed_mono (by omega) h⟩
theorem Cl.free {e : Nat} {st : St} (h : Cl st) : Cl (.free e :: st) := h.cons rfl
@[simp] theorem St.trunc_cons (x : AObj) (st : St) : St.trunc (x :: st) st.length = st := by unfold St.trunc; simp
@[simp] theorem St.trunc_cons2 (x y : AObj) (st : St) : St.trunc (x :: y :: st) st.length = st := by
 unfold St.trunc; rw [show (x :: y :: st).length - st.length = 2 by simp only [List.length_cons]; omega]; rfl
@[simp] theorem St.trunc_self (st : St) : St.trunc st st.length = st := by unfold St.trunc; simp
@[simp] theorem St.get_top (x : AObj) (st : St) : St.get (x :: st) st.length = some x := by rw [St.get_cons, if_pos rfl]
theorem St.get_under {x : AObj} {st : St} {o : Nat} (h : o ≠ st.length) : St.get (x :: st) o = St.get st o := by rw [St.get_cons, if_neg h]
theorem St.put_same {st : St} {t : Nat} {x : AObj} (h : st.get t = some x) : st.put t x = st := by
 have ht := St.get_lt h
 unfold St.put St.get at *
 rw [if_pos ht] at h ⊢
 apply List.ext_getElem?
 intro i
 by_cases e : i = st.length - 1 - t
 ·subst e; rw [List.getElem?_set_self (by omega), h]
 ·rw [List.getElem?_set_ne (fun x => e x.symm)]
theorem St.put_put (st : St) (t : Nat) (x y : AObj) : (st.put t x).put t y = st.put t y := by
 unfold St.put
 by_cases h : t < st.length
 ·simp [h]
 ·simp [h]
theorem St.trunc_put {st : St} {t n : Nat} {x : AObj} (h : n ≤ t) : (st.put t x).trunc n = st.trunc n := by
 unfold St.put
 split
 ·rename_i ht
  unfold St.trunc
  rw [List.length_set, List.drop_set_of_lt (by omega)]
 ·rfl
def Sl (kd : Nat) (a : AV) (c : List (List AV)) : Prop :=
 (a = .nils ∧ c = []) ∨ ∃ rows off tok, a = .sl kd rows off c.length tok ∧ off + c.length ≤ rows.length ∧ (rows.drop off).take c.length = c
theorem Sl.nil {kd : Nat} : Sl kd .nils [] := .inl ⟨rfl, rfl⟩
theorem Sl.mk {kd : Nat} {c : List (List AV)} {tok : Tok} : Sl kd (.sl kd c 0 c.length tok) c := .inr ⟨c, 0, tok, rfl, by omega, by simp⟩
variable {kd : Nat} {a : AV} {c : List (List AV)} {st : St}
theorem Sl.len (h : Sl kd a c) : lenSl a = some (.int .i64 c.length) := by
 rcases h with ⟨rfl, rfl⟩ | ⟨rows, off, tok, rfl, h1, h2⟩ <;> rfl
theorem Sl.rows (h : Sl kd a c) : rowsOf st kd a = some c := by
 rcases h with ⟨rfl, rfl⟩ | ⟨rows, off, tok, rfl, h1, h2⟩
 ·rfl
 ·simp [rowsOf, h2]
theorem Sl.at (h : Sl kd a c) {j : Nat} {r : List AV} (hj : c[j]? = some r) : idxSl st kd a j = some (.ip r 0) := by
 have hl := (List.getElem?_eq_some_iff.1 hj).1
 rcases h with ⟨rfl, rfl⟩ | ⟨rows, off, tok, rfl, h1, h2⟩
 ·simp at hl
 ·have : rows[off + j]? = some r := by
   rw [← h2, List.getElem?_take_of_lt hl, List.getElem?_drop] at hj
   exact hj
  simp [idxSl, hl, this]
theorem Sl.cut (h : Sl kd a c) {lo hi : Option AV} {l k : Nat} (hlo : optA lo 0 = some l) (hhi : optA hi c.length = some k) (h1 : l ≤ k) (h2 : k ≤ c.length) :
  ∃ a', sliceSl st kd a lo hi none = some a' ∧ Sl kd a' ((c.take k).drop l) := by
 rcases h with ⟨rfl, rfl⟩ | ⟨rows, off, tok, rfl, h3, h4⟩
 ·simp only [List.length_nil, Nat.le_zero_eq] at h2
  subst h2
  have : l = 0 := by omega
  subst this
  refine ⟨.nils, ?_, by simpa using Sl.nil⟩
  simp only [sliceSl, List.length_nil] at hhi ⊢
  rw [hhi, hlo]
  simp [optA]
 ·have e : ((c.take k).drop l).length = k - l := by simp; omega
  refine ⟨.sl kd rows (off + l) (k - l) tok, ?_, .inr ⟨rows, off + l, tok, by rw [e], by rw [e]; omega, ?_⟩⟩
  ·simp only [sliceSl, hhi, hlo, Option.bind_some, true_and]
   rw [if_pos h1, if_pos (by omega)]
  ·rw [e, ← h4, List.take_take, Nat.min_eq_left h2, List.drop_take, List.drop_drop]
theorem Sl.frz (h : Sl kd a c) : freezeA st a = some (a, st) := by
 rcases h with ⟨rfl, rfl⟩ | ⟨rows, off, tok, rfl, h1, h2⟩ <;> rfl
def Acc (kd t : Nat) (st : St) (v : AV) (c : List (List AV)) : Prop :=
 (v = .nils ∧ c = [] ∧ ∃ e, st.get t = some (.free e)) ∨ (∃ ep, v = .sl kd c 0 c.length (.spare t ep) ∧ st.get t = some (.spare ep c.length)) ∨ (v = .sl kd c 0 c.length .exact ∧ ∃ e, st.get t = some (.free e))
variable {t bytes : Nat} {v x : AV} {new : List (List AV)}
theorem Acc.sl (h : Acc kd t st v c) : Sl kd v c := by
 rcases h with ⟨rfl, rfl, _⟩ | ⟨ep, rfl, _⟩ | ⟨rfl, _⟩
 ·exact .nil
 ·exact .mk
 ·exact .mk
theorem Acc.app (h : Acc kd t st v c) (hx : rowsOf st kd x = some new) (h1 : (c.length + new.length) * bytes ≤ roomA) (h2 : c.length + new.length ≤ roomA) :
  ∃ v' y, appendL st (some (t, false)) bytes kd v x = some (v', st.put t y) ∧ Acc kd t (st.put t y) v' (c ++ new) := by
 unfold appendL
 rw [hx]
 simp only [Option.bind_some]
 rcases h with ⟨rfl, rfl, e, he⟩ | ⟨ep, rfl, he⟩ | ⟨rfl, e, he⟩
 ·have ht := St.get_lt he
  simp only [List.length_nil, Nat.zero_add] at h1 h2
  by_cases hn : new.length = 0
  ·have : new = [] := List.eq_nil_of_length_eq_zero hn
   subst this
   exact ⟨.nils, .free e, by simp [St.put_same he], .inl ⟨rfl, rfl, e, by rw [St.put_same he]; exact he⟩⟩
  ·refine ⟨.sl kd new 0 new.length (.spare t (e + 1)), .spare (e + 1) new.length, ?_, .inr (.inl ⟨e + 1, rfl, by rw [St.get_put_same ht]; rfl⟩)⟩
   simp only [if_neg hn]
   rw [if_pos ⟨h1, h2⟩]
   simp [homeA, he]
 ·have ht := St.get_lt he
  dsimp only
  rw [if_pos (show kd = kd ∧ 0 + c.length = c.length ∧ (c.length + new.length) * bytes ≤ roomA ∧ c.length + new.length ≤ roomA from ⟨rfl, by omega, h1, h2⟩)]
  simp only [he, if_true, and_self]
  by_cases hn : new.length = 0
  ·have : new = [] := List.eq_nil_of_length_eq_zero hn
   subst this
   exact ⟨.sl kd c 0 c.length (.spare t ep), .spare ep c.length, by simp [St.put_same he], .inr (.inl ⟨ep, by simp, by rw [St.put_same he]; simpa using he⟩)⟩
  ·refine ⟨.sl kd (c ++ new) 0 (c.length + new.length) (.spare t ep), .spare ep (c.length + new.length), by simp [hn], .inr (.inl ⟨ep, by simp, by rw [St.get_put_same ht]; simp⟩)⟩
 ·have ht := St.get_lt he
  dsimp only
  rw [if_pos (show kd = kd ∧ 0 + c.length = c.length ∧ (c.length + new.length) * bytes ≤ roomA ∧ c.length + new.length ≤ roomA from ⟨rfl, by omega, h1, h2⟩)]
  by_cases hn : new.length = 0
  ·have : new = [] := List.eq_nil_of_length_eq_zero hn
   subst this
   exact ⟨.sl kd c 0 c.length .exact, .free e, by simp [St.put_same he], .inr (.inr ⟨by simp, e, by rw [St.put_same he]; exact he⟩)⟩
  ·refine ⟨.sl kd (c ++ new) 0 (c.length + new.length) (.spare t (e + 1)), .spare (e + 1) (c.length + new.length), ?_, .inr (.inl ⟨e + 1, by simp, by rw [St.get_put_same ht]; simp⟩)⟩
   simp only [if_neg hn, List.drop_zero]
   simp [homeA, he]
theorem Acc.out {n : Nat} (h : Acc kd t st v c) (hn : n ≤ t) (hc : AV.closedss n c = true) (hs : St.closed n (st.trunc n) = true) :
  ∃ v', outL false n (.ret v) st = some (.ret v', st.trunc n) ∧ Sl kd v' c ∧ AV.closed n v' = true := by
 have ht : t < st.length := by
  rcases h with ⟨_, _, e, he⟩ | ⟨ep, _, he⟩ | ⟨_, e, he⟩ <;> exact St.get_lt he
 have hne : (st.length == n) = false := by simp; omega
 rcases h with ⟨rfl, rfl, e, he⟩ | ⟨ep, rfl, he⟩ | ⟨rfl, e, he⟩
 ·exact ⟨.nils, by simp [outL, hne, AV.stripR, AV.stripN, AV.closed, hs], .nil, rfl⟩
 ·refine ⟨.sl kd c 0 c.length .no, ?_, .mk, by simp [AV.closed, hc]⟩
  have hs2 : AV.stripR n (.sl kd c 0 c.length (.spare t ep)) = .sl kd c 0 c.length .no := by
   simp only [AV.stripR, AV.stripN]; rw [if_neg (by omega)]
  simp only [outL, hne, Bool.or_self, Bool.false_eq_true, if_false, hs2]
  simp [AV.closed, hc, hs]
 ·refine ⟨.sl kd c 0 c.length .exact, ?_, .mk, by simp [AV.closed, hc]⟩
  simp [outL, hne, AV.stripR, AV.stripN, AV.closed, hc, hs]
theorem outL_plain {n : Nat} {v : AV} {st : St} (h1 : AV.stripR n v = v) (h2 : AV.closed n v = true) (hs : St.closed n (st.trunc n) = true) (hl : n ≤ st.length) : outL false n (.ret v) st = some (.ret v, st.trunc n) := by
 unfold outL
 by_cases hne : st.length = n
 ·subst hne; simp
 ·have : (st.length == n) = false := by simpa using hne
  simp [this, h1, h2, hs]
end Go.Abs
namespace Go.Abs
open Go
structure Rd (st : St) (kd : Nat) (v : AV) (c : List (List AV)) : Prop where
 len : lenSl v = some (.int .i64 c.length)
 rows : rowsOf st kd v = some c
 at' : ∀ (j : Nat) r, c[j]? = some r → ∃ p, idxSl st kd v j = some p ∧ ∀ n ag, readA st p n ag = readRow r 0 n ag
def Mu (st : St) (kd : Nat) (v : AV) (o : Nat) (c : List (List AV)) : Prop := ∃ ep, v = .ms o ep 0 c.length c.length ∧ st.get o = some (.rows kd ep c)
def MuN (st : St) (kd : Nat) (v : AV) (o : Nat) (c : List (List AV)) : Prop := (v = .nils ∧ c = [] ∧ ∃ e, st.get o = some (.free e)) ∨ Mu st kd v o c
variable {kd : Nat} {a v x : AV} {c new : List (List AV)} {st st' : St} {o bytes : Nat}
theorem Sl.rd (h : Sl kd a c) : Rd st kd a c := ⟨h.len, h.rows, fun j r hj => ⟨_, h.at hj, fun n ag => rfl⟩⟩
theorem Mu.rd (h : Mu st kd v o c) : Rd st kd v c := by
 obtain ⟨ep, rfl, hg⟩ := h
 refine ⟨rfl, ?_, fun j r hj => ?_⟩
 ·simp [rowsOf, hg]
 ·have hl := (List.getElem?_eq_some_iff.1 hj).1
  refine ⟨.ptr o ep (0 + j) 0, ?_, fun n ag => ?_⟩
  ·simp [idxSl, msKd, hg, hl]
  ·simp [readA, hg, hj]
theorem MuN.rd (h : MuN st kd v o c) : Rd st kd v c := by
 rcases h with ⟨rfl, rfl, _⟩ | h
 ·exact Sl.rd .nil
 ·exact h.rd
theorem Mu.same (h : Mu st kd v o c) (hg : st'.get o = st.get o) : Mu st' kd v o c := by
 obtain ⟨ep, rfl, h2⟩ := h
 exact ⟨ep, rfl, by rw [hg]; exact h2⟩
theorem MuN.same (h : MuN st kd v o c) (hg : st'.get o = st.get o) : MuN st' kd v o c := by
 rcases h with ⟨h1, h2, e, h3⟩ | h
 ·exact .inl ⟨h1, h2, e, by rw [hg]; exact h3⟩
 ·exact .inr (h.same hg)
theorem MuN.lt (h : MuN st kd v o c) : o < st.length := by
 rcases h with ⟨_, _, e, h⟩ | ⟨ep, _, h⟩ <;> exact St.get_lt h
theorem MuN.app (h : MuN st kd v o c) (hx : rowsOf st kd x = some new) (h1 : (c.length + new.length) * bytes ≤ roomA) (h2 : c.length + new.length ≤ roomA) :
  ∃ v' y, appendL st (some (o, true)) bytes kd v x = some (v', st.put o y) ∧ MuN (st.put o y) kd v' o (c ++ new) ∧ ((∃ e, y = .free e) ∨ ∃ ep, y = .rows kd ep (c ++ new)) := by
 have ho := h.lt
 unfold appendL
 rw [hx]
 simp only [Option.bind_some]
 rcases h with ⟨rfl, rfl, e, he⟩ | ⟨ep, rfl, he⟩
 ·simp only [List.length_nil, Nat.zero_add] at h1 h2
  by_cases hn : new.length = 0
  ·have : new = [] := List.eq_nil_of_length_eq_zero hn
   subst this
   exact ⟨.nils, .free e, by simp [St.put_same he], .inl ⟨rfl, rfl, e, by rw [St.put_same he]; exact he⟩, .inl ⟨e, rfl⟩⟩
  ·refine ⟨.ms o (e + 1) 0 new.length new.length, .rows kd (e + 1) new, ?_, .inr ⟨e + 1, rfl, by rw [St.get_put_same ho]; rfl⟩, .inr ⟨e + 1, rfl⟩⟩
   simp only [if_neg hn]
   rw [if_pos ⟨h1, h2⟩]
   simp [homeA, he]
 ·dsimp only
  rw [he]
  dsimp only
  rw [if_pos (show kd = kd ∧ ep = ep ∧ (c.length + new.length) * bytes ≤ roomA ∧ c.length + new.length ≤ roomA ∧ 0 + c.length ≤ c.length ∧ c.length ≤ c.length from ⟨rfl, rfl, h1, h2, by omega, by omega⟩)]
  by_cases hn : new.length = 0
  ·have : new = [] := List.eq_nil_of_length_eq_zero hn
   subst this
   refine ⟨.ms o ep 0 c.length c.length, .rows kd ep c, by simp, .inr ⟨ep, by simp, by rw [St.get_put_same ho]; simp⟩, .inr ⟨ep, by simp⟩⟩
  ·rw [if_neg (by omega)]
   refine ⟨.ms o (ep + 1) 0 (c ++ new).length (c ++ new).length, .rows kd (ep + 1) (c ++ new), by simp, .inr ⟨ep + 1, rfl, by rw [St.get_put_same ho]⟩, .inr ⟨ep + 1, rfl⟩⟩
def Ext (st st' : St) : Prop := ∀ o x, st.get o = some x → st'.get o = some x
theorem Ext.refl (st : St) : Ext st st := fun _ _ h => h
theorem Ext.trans {s1 s2 s3 : St} (h : Ext s1 s2) (h' : Ext s2 s3) : Ext s1 s3 := fun o x hx => h' o x (h o x hx)
theorem Ext.cons (x : AObj) (st : St) : Ext st (x :: st) := fun o y h => by
 have := St.get_lt h
 rw [St.get_under (by omega)]; exact h
theorem Mu.ext (h : Mu st kd v o c) (he : Ext st st') : Mu st' kd v o c := by
 obtain ⟨ep, rfl, h2⟩ := h
 exact ⟨ep, rfl, he _ _ h2⟩
theorem MuN.ext (h : MuN st kd v o c) (he : Ext st st') : MuN st' kd v o c := by
 rcases h with ⟨h1, h2, e, h3⟩ | h
 ·exact .inl ⟨h1, h2, e, he _ _ h3⟩
 ·exact .inr (h.ext he)
theorem Sl.cell1 (h : Sl kd a c) : cell1 a = some a := by
 rcases h with ⟨rfl, rfl⟩ | ⟨rows, off, tok, rfl, h1, h2⟩ <;> rfl
theorem MuN.cell1 (h : MuN st kd v o c) : Go.Abs.cell1 v = some v := by
 rcases h with ⟨rfl, rfl, _⟩ | ⟨ep, rfl, _⟩ <;> rfl
section
variable {R : Type} {j : Nat} {r : List AV} {k : IntKind}
theorem Rd.cell (h : Rd st kd a c) {y : AV} (hj : c[j]? = some r) (hr : r[0]? = some y) (K : AV → Option R) :
  ((natA (.int k (j : Int))).bind fun j => (idxSl st kd a j).bind fun v => (readA st v 1 false).bind K) = K y := by
 obtain ⟨p, h1, h2⟩ := h.at' j r hj
 rw [natA_nat, Option.bind_some, h1, Option.bind_some, h2]
 simp [readRow, hr]
theorem Rd.int (h : Rd st kd a c) {n : Int} {k' : IntKind} (hj : c[j]? = some r) (hr : r[0]? = some (.int k' n)) (K : Int → Option R) :
  ((natA (.int k (j : Int))).bind fun j => (idxSl st kd a j).bind fun v => (readA st v 1 false).bind fun v => (intV k' v).bind K) = K n := by
 rw [h.cell hj hr]; simp
theorem Rd.agg (h : Rd st kd a c) (hj : c[j]? = some r) {n : Nat} (hn : r.length = n) (K : AV → Option R) :
  ((natA (.int k (j : Int))).bind fun j => (idxSl st kd a j).bind fun v => (readA st v n true).bind K) = K (.agg r) := by
 obtain ⟨p, h1, h2⟩ := h.at' j r hj
 rw [natA_nat, Option.bind_some, h1, Option.bind_some, h2]
 subst hn
 simp [readRow]
end
theorem St.put_top (x y : AObj) (st : St) : St.put (x :: st) st.length y = y :: st := by unfold St.put; simp
theorem St.put_under {x y : AObj} {st : St} {o : Nat} (h : o < st.length) : St.put (x :: st) o y = x :: St.put st o y := by
 unfold St.put
 simp only [List.length_cons]
 rw [if_pos (by omega), if_pos h, show st.length + 1 - 1 - o = (st.length - 1 - o) + 1 by omega, List.set_cons_succ]
theorem roundV_same (fr : Fr) (st : St) : roundV st.length fr st = some (fr, st) := by simp [roundV]
mutual
theorem AV.beq_refl (a : AV) : AV.beq a a = true := by
 cases a <;> simp only [AV.beq, beq_self_eq_true, Bool.and_self, Bool.true_and, Bool.and_true]
 all_goals first
  |exact AV.beqs_refl _
  |exact AV.beqss_refl _
  |exact AV.beq_refl _
  |(simp; exact AV.beqss_refl _)
  |(simp; exact AV.beqs_refl _)
  |simp
  |skip
termination_by structural a
theorem AV.beqs_refl (a : List AV) : AV.beqs a a = true := by
 cases a with
 |nil => rfl
 |cons x r => simp only [AV.beqs, Bool.and_eq_true]; exact ⟨AV.beq_refl x, AV.beqs_refl r⟩
termination_by structural a
theorem AV.beqss_refl (a : List (List AV)) : AV.beqss a a = true := by
 cases a with
 |nil => rfl
 |cons x r => simp only [AV.beqss, Bool.and_eq_true]; exact ⟨AV.beqs_refl x, AV.beqss_refl r⟩
termination_by structural a
end
def Lent (kd : Nat) (v : AV) (c extra : List (List AV)) : Prop := ∃ tok : Tok, (tok = .no ∨ tok = .exact) ∧ v = .sl kd (c ++ extra) 0 c.length tok
theorem Lent.strip {kd n : Nat} {v : AV} {c extra : List (List AV)} (h : Lent kd v c extra) : AV.stripN n v = v := by
 obtain ⟨tok, rfl | rfl, rfl⟩ := h <;> rfl
theorem Lent.closed {kd n : Nat} {v : AV} {c extra : List (List AV)} (h : Lent kd v c extra) (hc : AV.closedss n (c ++ extra) = true) : AV.closed n v = true := by
 obtain ⟨tok, rfl | rfl, rfl⟩ := h <;> simp [AV.closed, hc]
theorem Lent.strip1 {kd : Nat} {v : AV} {c extra : List (List AV)} (h : Lent kd v c extra) : Lent kd v.strip c extra := by
 obtain ⟨tok, _, rfl⟩ := h
 exact ⟨.no, .inl rfl, rfl⟩
theorem Lent.sl {kd : Nat} {v : AV} {c extra : List (List AV)} (h : Lent kd v c extra) : Sl kd v c := by
 obtain ⟨tok, _, rfl⟩ := h
 exact .inr ⟨c ++ extra, 0, tok, by simp, by simp, by simp⟩
section
variable {st : St} {o n : Nat} {x y z u : AObj}
theorem get_at1 (h : n = st.length) : St.get (x :: st) n = some x := by subst h; exact St.get_top _ _
theorem get_at2 (h : n = st.length) : St.get (x :: y :: st) n = some y := by subst h; rw [St.get_under (by simp only [List.length_cons]; omega)]; exact St.get_top _ _
theorem box_read {ty : TypeId} {row : List AV} {c k : Nat} {ag : Bool} (h : st.get o = some (.box ty row)) : readA st (.bp o c) k ag = readRow row c k ag := by simp [readA, h]
theorem box_write {ty : TypeId} {row row' cs : List AV} {c : Nat} (h : st.get o = some (.box ty row)) (hs : setAt row c cs = some row') : writeA st (.bp o c) cs = some (st.put o (.box ty row')) := by simp [writeA, h, hs]
theorem cells_agg {cs : List AV} (h : cs.length = n) : cellsV n (.agg cs) = some cs := by simp [cellsV, AV.cells, AV.isTup, h]
theorem setAt_all : ∀ (xs cs : List AV), xs.length = cs.length → setAt xs 0 cs = some cs
 |[], [], _ => rfl
 |x :: xs, c :: cs, h => by simp only [setAt, setAt_all xs cs (by simpa using h), Option.map_some]
theorem row_all (xs : List AV) (m : Nat) (h : xs.length = m) : readRow xs 0 m true = some (.agg xs) := by
 subst h
 simp [readRow]
end
def Each {α : Type} (R : α → List AV → Prop) (xs : List α) (rows : List (List AV)) : Prop := xs.length = rows.length ∧ ∀ (i : Nat) x r, xs[i]? = some x → rows[i]? = some r → R x r
theorem Each.nil {α : Type} {R : α → List AV → Prop} : Each R [] [] := ⟨rfl, by simp⟩
theorem Each.get {α : Type} {R : α → List AV → Prop} {xs : List α} {rows : List (List AV)} (h : Each R xs rows) {i : Nat} {x : α} (hx : xs[i]? = some x) : ∃ r, rows[i]? = some r ∧ R x r := by
 have hl := (List.getElem?_eq_some_iff.1 hx).1
 have : rows[i]? = some (rows[i]'(by rw [← h.1]; exact hl)) := List.getElem?_eq_getElem _
 exact ⟨_, this, h.2 i x _ hx this⟩
theorem Each.imp {α : Type} {R R' : α → List AV → Prop} {xs : List α} {rows : List (List AV)} (h : Each R xs rows) (hi : ∀ x r, R x r → R' x r) : Each R' xs rows := ⟨h.1, fun i x r h1 h2 => hi _ _ (h.2 i x r h1 h2)⟩
theorem Each.take {α : Type} {R : α → List AV → Prop} {xs : List α} {rows : List (List AV)} (h : Each R xs rows) (n : Nat) : Each R (xs.take n) (rows.take n) := by
 refine ⟨by simp [h.1], fun i x r h1 h2 => ?_⟩
 rw [List.getElem?_take] at h1 h2
 split at h1
 ·rename_i hi; rw [if_pos hi] at h2; exact h.2 i x r h1 h2
 ·simp at h1
end Go.Abs
namespace Go.Abs
open Go Go.IntWalk
@[simp] theorem nilCheckA_ip (r : List AV) (c : Nat) : nilCheckA (.ip r c) = some (.ip r c) := rfl
@[simp] theorem nilCheckA_bp (o c : Nat) : nilCheckA (.bp o c) = some (.bp o c) := rfl
@[simp] theorem ptrAdd_ip (k : Nat) (r : List AV) (c : Nat) : ptrAdd k (.ip r c) = some (.ip r (c + k)) := rfl
@[simp] theorem ptrAdd_bp (k o c : Nat) : ptrAdd k (.bp o c) = some (.bp o (c + k)) := rfl
@[simp] theorem readA_ip (st : St) (r : List AV) (c n : Nat) (ag : Bool) : readA st (.ip r c) n ag = readRow r c n ag := rfl
theorem e1i {i : Nat} (h : i < 1000000000000) : IntKind.i64.wrap ((i : Int) + 1) = ((i + 1 : Nat) : Int) := by rw [i64_in _ (by omega)]; rfl
theorem eadd {i j : Nat} (h : i + j < 1000000000000) : IntKind.i64.wrap ((i : Int) + (j : Int)) = ((i + j : Nat) : Int) := by rw [i64_in _ (by omega)]; rfl
structure Up (st S : St) : Prop where
 low : S.trunc st.length = st
 len : st.length ≤ S.length
theorem Up.refl (st : St) : Up st st := ⟨St.trunc_self st, Nat.le_refl _⟩
theorem St.trunc_trunc {S : St} {n m : Nat} (h : n ≤ m) : (S.trunc m).trunc n = S.trunc n := by
 unfold St.trunc
 rw [List.drop_drop]
 simp only [List.length_drop]
 congr 1
 omega
theorem Up.trans {a b c : St} (h1 : Up a b) (h2 : Up b c) : Up a c := ⟨by rw [← St.trunc_trunc h1.len, h2.low, h1.low], Nat.le_trans h1.len h2.len⟩
theorem Up.cons (x : AObj) (st : St) : Up st (x :: st) := ⟨St.trunc_cons x st, by simp⟩
theorem Up.push {st S : St} (h : Up st S) (x : AObj) : Up st (x :: S) := h.trans (Up.cons x S)
theorem Up.put {st S : St} (h : Up st S) {t : Nat} (ht : st.length ≤ t) (x : AObj) : Up st (S.put t x) := ⟨by rw [St.trunc_put ht, h.low], by simpa using h.len⟩
theorem Up.app {st S : St} (h : Up st S) : ∃ js, S = js ++ st := by
 have := h.low
 unfold St.trunc at this
 exact ⟨S.take (S.length - st.length), by conv => lhs; rw [← List.take_append_drop (S.length - st.length) S, this]⟩
theorem St.get_app {js st : St} {o : Nat} (h : o < st.length) : St.get (js ++ st) o = St.get st o := by
 induction js with
 |nil => rfl
 |cons x js ih => rw [List.cons_append, St.get_under (by rw [List.length_append]; omega), ih]
theorem Up.get {st S : St} (h : Up st S) {o : Nat} {x : AObj} (hg : st.get o = some x) : S.get o = some x := by
 obtain ⟨js, rfl⟩ := h.app
 rw [St.get_app (St.get_lt hg)]; exact hg
theorem St.get_put_other {st : St} {o t : Nat} {x : AObj} (h : o ≠ t) : St.get (st.put t x) o = st.get o := by
 unfold St.get St.put
 by_cases ht : t < st.length
 ·rw [if_pos ht, List.length_set]
  by_cases ho : o < st.length
  ·rw [if_pos ho, if_pos ho, List.getElem?_set_ne (by omega)]
  ·rw [if_neg ho, if_neg ho]
 ·rw [if_neg ht]
theorem Up.putLow {st S : St} (h : Up st S) {o : Nat} (ho : o < st.length) (x : AObj) : Up (st.put o x) (S.put o x) := by
 obtain ⟨js, rfl⟩ := h.app
 have : St.put (js ++ st) o x = js ++ St.put st o x := by
  clear h
  induction js with
  |nil => rfl
  |cons y js ih => rw [List.cons_append, St.put_under (by rw [List.length_append]; omega), ih]; rfl
 rw [this]
 refine ⟨?_, by simp⟩
 unfold St.trunc
 rw [List.length_append, Nat.add_sub_cancel, List.drop_left]
section
variable {R : Type} {st : St} {s : List UInt8} {c : UInt8}
theorem str_at {j : Nat} (h : s[j]? = some c) (K : Int → Option R) : ((Option.map (fun b : UInt8 => AV.int .u8 (b.toNat : Int)) s[j]?).bind fun v => (intV .u8 v).bind K) = K (c.toNat : Int) := by rw [h]; simp
@[simp] theorem strA_eql (a b : List UInt8) : strA .eql a b = some (.bool (a == b)) := rfl
@[simp] theorem strA_neq (a b : List UInt8) : strA .neq a b = some (.bool (!(a == b))) := rfl
theorem cut_from {i : Nat} (h : i ≤ s.length) : sliceStr (.str s) (some (.int .i64 (i : Int))) none = some (.str (s.drop i)) := by
 simp only [sliceStr, optA, natA_nat, Option.bind_some]
 rw [if_pos ⟨h, Nat.le_refl _⟩, List.take_of_length_le (Nat.le_refl _)]
theorem cut_to {i : Nat} (h : i ≤ s.length) : sliceStr (.str s) none (some (.int .i64 (i : Int))) = some (.str (s.take i)) := by
 simp only [sliceStr, optA, natA_nat, Option.bind_some]
 rw [if_pos ⟨Nat.zero_le _, h⟩]; rfl
theorem cut_mid {i j : Nat} (h1 : i ≤ j) (h : j ≤ s.length) : sliceStr (.str s) (some (.int .i64 (i : Int))) (some (.int .i64 (j : Int))) = some (.str ((s.take j).drop i)) := by
 simp only [sliceStr, optA, natA_nat, Option.bind_some]
 rw [if_pos ⟨h1, h⟩]
theorem drop_head {i : Nat} {r : List UInt8} (h : s.drop i = c :: r) : s[i]? = some c ∧ s.drop (i + 1) = r ∧ i < s.length := by
 have h1 : i < s.length := by
  by_cases hl : i < s.length
  ·exact hl
  ·rw [List.drop_of_length_le (by omega)] at h; cases h
 refine ⟨?_, ?_, h1⟩
 ·have : (s.drop i)[0]? = some c := by rw [h]; rfl
  rw [List.getElem?_drop] at this; simpa using this
 ·rw [← List.drop_drop, h]; rfl
theorem drop_nil {i : Nat} (h : s.drop i = []) : s.length ≤ i := by
 have := congrArg List.length h
 simp at this; omega
end
theorem u8_eq {a b : UInt8} : a = b ↔ a.toNat = b.toNat := ⟨fun h => by rw [h], fun h => UInt8.toNat_inj.1 h⟩
end Go.Abs
namespace Go.Abs
open Go Go.RowKit
section
variable {P : Program} {H : Hints} {w : World}
def ghost0 (w : World) : Gh := { I := fun b i => (w.cell? ⟨b, i, none⟩).filter (·.oneCell'), sh := w.shape?, R := fun _ _ => none, B := fun _ => none, L := fun _ _ _ => none, lo := w.heap.size }
theorem wf0 : WF P w w.heap.size (ghost0 w) [] w := by
 refine ⟨Below.refl _ _, Nat.le_refl _, fun b i v hv => ?_, fun b x hx => hx, fun o x hx => by simp [St.get] at hx, fun o x hx => by simp [St.get] at hx, fun o o' x x' b hx => by simp [St.get] at hx, fun _ _ _ => rfl, fun _ _ => rfl, fun _ _ _ _ => rfl, rfl⟩
 have hv' : (w.cell? ⟨b, i, none⟩).filter (·.oneCell') = some v := hv
 rw [Option.filter_eq_some_iff] at hv'
 exact hv'
theorem ghost0_I {b i : Nat} {v : Value} (h : w.cell? ⟨b, i, none⟩ = some v) (h1 : v.oneCell' = true) : (ghost0 w).I b i = some v := by
 show (w.cell? ⟨b, i, none⟩).filter (·.oneCell') = some v
 rw [h]; simp [Option.filter, h1]
def avD {T : Type} (P : Program) : Nat → TypeId → DataW T → Option (List AV)
 | 0, _, _ => none
 |n + 1, t, d =>
  match P.underlying t, d with
  |some .bool, .lit (.bool b) => some [.bool b]
  |some (.int k), .lit (.int k' n) => if k' = k ∧ (Lit.int k n).wf = true then some [.int k n] else none
  |some .string, .lit (.string s) => some [.str s]
  |some (.pointer _), .nil => some [.nilp]
  |some (.slice _), .nil => some [.nils]
  |some (.slice e), .slice elems _ => (kdOf P e).bind fun kd => (elems.mapM (avD P n e)).map fun rows => [.sl kd rows 0 rows.length .no]
  |some (.struct fs), .agg parts => if parts.length = fs.size then ((fs.toList.zip parts).mapM fun p => avD P n p.1.type p.2).map List.flatten else none
  |some (.array m e), .agg parts => if parts.length = m then (parts.mapM (avD P n e)).map List.flatten else none
  |some (.map _ _), .nil => some [.nilm]
  |some (.func ..), .nil => some [.nilf]
  |some (.interface _), .nil => some [.nili]
  |_, _ => none
theorem addr_of_cell {a : Addr} {v : Value} (h : w.cell? a = some v) : a.spot = none := by
 unfold World.cell? at h
 split at h
 ·split at h
  ·simp at h
  ·rename_i hs; simpa using hs
 ·simp at h
theorem addr_eta {a : Addr} (h : a.spot = none) : a = ⟨a.block, a.off, none⟩ := by cases a; simp_all
theorem mapM_len {α β : Type} {g : α → Option β} {l : List α} {l' : List β} (h : l.mapM g = some l') : l'.length = l.length := by
 induction l generalizing l' with
 |nil => simp at h; subst h; rfl
 |cons a l ih =>
  rw [List.mapM_cons] at h
  obtain ⟨b, hb, h2⟩ := Option.bind_eq_some_iff.1 h
  obtain ⟨bs, hbs, h3⟩ := Option.bind_eq_some_iff.1 h2
  simp only [Option.pure_def, Option.some.injEq] at h3
  subst h3
  simp [ih hbs]
theorem cells_get {base b o n : Nat} {cs : List Value} (h : w.cells? base ⟨b, o, none⟩ n = some cs) : cs.length = n ∧ ∀ j, j < n → w.cell? ⟨b, o + j, none⟩ = cs[j]? := by
 unfold World.cells? at h
 split at h
 ·have hl := mapM_len h
  rw [List.length_range] at hl
  refine ⟨hl, fun j hj => ?_⟩
  have := mapM_get h j
  rw [this, List.getElem?_range hj]
  simp only [Option.bind_some, addr_add]
 ·simp at h
theorem size_of_cell {b i : Nat} {v : Value} (h : w.cell? ⟨b, i, none⟩ = some v) : ∃ e n, w.shape? b = some (e, n) ∧ i < n := by
 unfold World.cell? at h
 unfold World.shape?
 split at h
 ·rename_i c e fz hc
  rw [show (⟨b, i, none⟩ : Addr).block = b from rfl] at hc
  simp only [Option.isSome_none, Bool.false_eq_true, if_false] at h
  rw [hc]
  exact ⟨e, c.size, rfl, (Array.getElem?_eq_some_iff.1 h).1⟩
 ·simp at h
theorem sizeof_of {t : TypeId} {n : Nat} (h : szOf P t = some n) : P.cellsOf t = n := by
 unfold szOf at h
 unfold Program.cellsOf
 rw [h]; rfl
variable {T : Type} {enc : TypeId × Value → T} {base : Nat} {held : Bool}
theorem flatten_at {α β : Type} {f : α → β → Prop} : ∀ {xs : List (List α)} {ys : List (List β)}, xs.length = ys.length → (∀ (i : Nat) x y, xs[i]? = some x → ys[i]? = some y → x.length = y.length ∧ ∀ (j : Nat) a b, x[j]? = some a → y[j]? = some b → f a b) →
  xs.flatten.length = ys.flatten.length ∧ ∀ (j : Nat) a b, xs.flatten[j]? = some a → ys.flatten[j]? = some b → f a b
 |[], [], _, _ => ⟨rfl, fun j a b h => by simp at h⟩
 |x :: xs, y :: ys, hl, h => by
  obtain ⟨h1, h2⟩ := h 0 x y rfl rfl
  obtain ⟨h3, h4⟩ := flatten_at (xs := xs) (ys := ys) (by simpa using hl) fun i x y hx hy => h (i + 1) x y (by simpa using hx) (by simpa using hy)
  refine ⟨by simp only [List.flatten_cons, List.length_append]; omega, fun j a b ha hb => ?_⟩
  simp only [List.flatten_cons] at ha hb
  by_cases hj : j < x.length
  ·rw [List.getElem?_append_left hj] at ha
   rw [List.getElem?_append_left (by omega)] at hb
   exact h2 j a b ha hb
  ·rw [List.getElem?_append_right (by omega)] at ha
   rw [List.getElem?_append_right (by omega)] at hb
   rw [← h1] at hb
   exact h4 _ a b ha hb
 |[], _ :: _, hl, _ => by simp at hl
 |_ :: _, [], hl, _ => by simp at hl
def cuts {α : Type} : List Nat → List α → List (List α)
 |[], _ => []
 |n :: ns, l => l.take n :: cuts ns (l.drop n)
theorem cuts_flatten {α : Type} : ∀ {ns : List Nat} {l : List α}, l.length = ns.sum → (cuts ns l).flatten = l
 |[], l, h => by simp at h; simp [cuts, h]
 |n :: ns, l, h => by
  simp only [List.sum_cons] at h
  simp only [cuts, List.flatten_cons]
  rw [cuts_flatten (by simp; omega), List.take_append_drop]
theorem cuts_length {α : Type} : ∀ {ns : List Nat} {l : List α}, (cuts ns l).length = ns.length
 |[], l => rfl
 |n :: ns, l => by simp [cuts, cuts_length]
theorem cuts_get {α : Type} : ∀ {ns : List Nat} {l : List α} {i n : Nat}, ns[i]? = some n → (cuts ns l)[i]? = some ((l.drop (ns.take i).sum).take n)
 |[], l, i, n, h => by simp at h
 |m :: ns, l, 0, n, h => by simp at h; subst h; simp [cuts]
 |m :: ns, l, i + 1, n, h => by
  have := cuts_get (ns := ns) (l := l.drop m) (i := i) (n := n) (by simpa using h)
  simpa [cuts, List.drop_drop] using this
theorem ChangeBears_slice (hl : laidOutB P = true) {t e : TypeId} (ht : t < P.types.size) (hu : P.underlying t = some (.slice e)) : e < P.types.size := kid_slice hl ht hu
theorem trod_rep (hl : laidOutB P = true) {S : List TypeId} (hS : ∀ t ∈ S, (∀ e, P.underlying t = some (.slice e) → e ∈ S) ∧ (∀ fs, P.underlying t = some (.struct fs) → ∀ f ∈ fs.toList, f.type ∈ S) ∧ ∀ n e, P.underlying t = some (.array n e) → e ∈ S) :
  ∀ (fuel : Nat) (t : TypeId) (cs : List Value) (d : DataW T) (ps : List MemPlace) (xa0 : List AV), t ∈ S → t < P.types.size → DataW.trod enc P w base (fun _ => true) held fuel t cs = some (d, ps) → avD P fuel t d = some xa0 →
   cs.length = xa0.length ∧ (∀ v ∈ cs, v.oneCell' = true) ∧ ∀ (j : Nat) v a, cs[j]? = some v → xa0[j]? = some a → Rep P (ghost0 w) v a := by
 intro fuel
 induction fuel with
 |zero => intro t cs d ps xa0 hts ht h; simp [DataW.trod] at h
 |succ fuel ih =>
  intro t cs d ps xa0 hts ht h ha
  have one : ∀ {v : Value} {a : AV}, cs = [v] → xa0 = [a] → v.oneCell' = true → Rep P (ghost0 w) v a → cs.length = xa0.length ∧ (∀ v ∈ cs, v.oneCell' = true) ∧ ∀ (j : Nat) v a, cs[j]? = some v → xa0[j]? = some a → Rep P (ghost0 w) v a := by
   intro v a h1 h2 h3 h4
   subst h1; subst h2
   refine ⟨rfl, by simpa using h3, fun j v' a' hj hj' => ?_⟩
   cases j with
   |zero => simp at hj hj'; subst hj; subst hj'; exact h4
   |succ j => simp at hj
  unfold DataW.trod at h
  unfold avD at ha
  split at h
  ·
   rename_i b hu
   simp only [Option.some.injEq, Prod.mk.injEq] at h
   obtain ⟨rfl, rfl⟩ := h
   rw [hu] at ha
   simp only [Option.some.injEq] at ha
   exact one rfl ha.symm rfl (.bool b)
  ·
   rename_i k k' n hu
   split at h
   ·rename_i hk
    simp only [Option.some.injEq, Prod.mk.injEq] at h
    obtain ⟨rfl, rfl⟩ := h
    rw [hu] at ha
    simp only [hk.2, and_self, if_true, Option.some.injEq] at ha
    rw [← hk.1] at ha
    exact one rfl ha.symm rfl (.int k' n)
   ·simp at h
  ·
   rename_i hu
   split at h
   ·simp only [Option.some.injEq, Prod.mk.injEq] at h
    obtain ⟨rfl, rfl⟩ := h
    rw [hu] at ha
    simp at ha
   ·simp at h
  ·
   rename_i s hu
   split at h
   ·simp only [Option.some.injEq, Prod.mk.injEq] at h
    obtain ⟨rfl, rfl⟩ := h
    rw [hu] at ha
    simp only [Option.some.injEq] at ha
    exact one rfl ha.symm rfl (.str s)
   ·simp at h
  ·
   rename_i e hu
   simp only [Option.some.injEq, Prod.mk.injEq] at h
   obtain ⟨rfl, rfl⟩ := h
   rw [hu] at ha
   simp only [Option.some.injEq] at ha
   exact one rfl ha.symm rfl .nilp
  ·rename_i e a hu
   obtain ⟨x, _, h2⟩ := Option.map_eq_some_iff.1 h
   simp only [Prod.mk.injEq] at h2
   obtain ⟨rfl, _⟩ := h2
   rw [hu] at ha
   simp at ha
  ·
   rename_i e hu
   simp only [Option.some.injEq, Prod.mk.injEq] at h
   obtain ⟨rfl, rfl⟩ := h
   rw [hu] at ha
   simp only [Option.some.injEq] at ha
   exact one rfl ha.symm rfl .nils
  ·
   rename_i e a len cap hu
   simp only at h
   split at h
   ·rename_i hb
    obtain ⟨elems, he, h2⟩ := Option.bind_eq_some_iff.1 h
    obtain ⟨rest, hr, h3⟩ := Option.map_eq_some_iff.1 h2
    simp only [if_true] at hr
    simp only [Prod.mk.injEq] at h3
    obtain ⟨rfl, _⟩ := h3
    rw [hu] at ha
    simp only at ha
    obtain ⟨kd, hkd, ha2⟩ := Option.bind_eq_some_iff.1 ha
    obtain ⟨rows, hrows, ha3⟩ := Option.map_eq_some_iff.1 ha2
    obtain ⟨hsz, hu8⟩ := kdOf_sz hkd
    have hce := sizeof_of hsz
    have hpos := szk_pos kd
    have hel : elems.length = len := by simpa using mapM_len he
    have hrl : rest.length = cap - len := by simpa using mapM_len hr
    have hrwl : rows.length = len := by have := mapM_len hrows; simpa [hel] using this
    have elem : ∀ i, i < cap → ∃ x ci, w.cells? base (a.add (i * P.cellsOf e)) (P.cellsOf e) = some ci ∧ DataW.trod enc P w base (fun _ => true) held fuel e ci = some x ∧ (i < len → elems[i]? = some x) := by
     intro i hi
     by_cases hil : i < len
     ·have := mapM_get he i
      rw [List.getElem?_range hil] at this
      simp only [Option.bind_some] at this
      have h4 : elems[i]? = some (elems[i]'(by omega)) := List.getElem?_eq_getElem _
      rw [h4] at this
      obtain ⟨ci, h5, h6⟩ := Option.bind_eq_some_iff.1 this.symm
      exact ⟨_, ci, h5, h6, fun _ => h4⟩
     ·have := mapM_get hr (i - len)
      rw [List.getElem?_range (by omega)] at this
      simp only [Option.bind_some] at this
      have h4 : rest[i - len]? = some (rest[i - len]'(by omega)) := List.getElem?_eq_getElem _
      rw [h4, show len + (i - len) = i by omega] at this
      obtain ⟨ci, h5, h6⟩ := Option.bind_eq_some_iff.1 this.symm
      exact ⟨_, ci, h5, h6, fun h => absurd h hil⟩
    by_cases hc : cap = 0
    ·subst hc
     have hl0 : len = 0 := by omega
     subst hl0
     have : rows = [] := List.eq_nil_of_length_eq_zero (by omega)
     subst this
     exact one rfl ha3.symm rfl (.slz a kd)
    have hspot : a.spot = none := by
     obtain ⟨x, ci, h5, _, _⟩ := elem 0 (by omega)
     rw [Nat.zero_mul, show a.add 0 = a from rfl] at h5
     unfold World.cells? at h5
     split at h5
     ·have := mapM_get h5 0
      rw [List.getElem?_range (by omega)] at this
      simp only [Option.bind_some, show a.add 0 = a from rfl] at this
      have hl5 := mapM_len h5
      rw [List.length_range] at hl5
      rw [List.getElem?_eq_getElem (by omega)] at this
      exact addr_of_cell this.symm
     ·simp at h5
    obtain ⟨b, o, sp⟩ := a
    simp only at hspot
    subst hspot
    have cell : ∀ i, i < cap → ∃ x ci, ci.length = szk kd ∧ (∀ j, j < szk kd → w.cell? ⟨b, o + i * szk kd + j, none⟩ = ci[j]?) ∧ DataW.trod enc P w base (fun _ => true) held fuel e ci = some x ∧ (i < len → elems[i]? = some x) := by
     intro i hi
     obtain ⟨x, ci, h5, h6, h7⟩ := elem i hi
     rw [addr_add, hce] at h5
     obtain ⟨h8, h9⟩ := cells_get h5
     exact ⟨x, ci, h8, h9, h6, h7⟩
    have row : ∀ (i : Nat) r, rows[i]? = some r → r.length = szk kd ∧ ∀ (j : Nat) z, r[j]? = some z → ∃ v, w.cell? ⟨b, o + i * szk kd + j, none⟩ = some v ∧ v.oneCell' = true ∧ Rep P (ghost0 w) v z := by
     intro i r hi
     have hil : i < len := by rw [← hrwl]; exact (List.getElem?_eq_some_iff.1 hi).1
     obtain ⟨x, ci, c1, c2, c3, c4⟩ := cell i (by omega)
     have hxr : avD P fuel e x.1 = some r := by
      have := mapM_get hrows i
      rw [hi, List.getElem?_map, c4 hil] at this
      simpa using this.symm
     obtain ⟨q1, q2, q3⟩ := ih e ci x.1 x.2 r ((hS t hts).1 e hu) (ChangeBears_slice hl ht hu) c3 hxr
     refine ⟨by omega, fun j z hz => ?_⟩
     have hjl := (List.getElem?_eq_some_iff.1 hz).1
     have hv : ci[j]? = some (ci[j]'(by omega)) := List.getElem?_eq_getElem _
     exact ⟨_, by rw [c2 j (by omega)]; exact hv, q2 _ (List.getElem_mem _), q3 j _ z hv hz⟩
    refine one rfl ha3.symm rfl ?_
    have hlen : rows.length = len := hrwl
    subst hlen
    refine .sl b o o rows.length cap kd rows 0 .no (by omega) (fun r hr => ?_) (by omega) (fun _ => by simp) ?_ trivial (fun i r j z h1 h2 => ?_) (fun i r j z v h1 h2 h3 => ?_)
    ·obtain ⟨i, hi⟩ := List.getElem?_of_mem hr
     exact (row i r hi).1
    ·first
     |done
     |obtain ⟨x, ci, c1, c2, _, _⟩ := cell (cap - 1) (by omega)
      have := c2 (szk kd - 1) (by omega)
      rw [List.getElem?_eq_getElem (by omega)] at this
      obtain ⟨se, sn, s1, s2⟩ := size_of_cell this
      refine .inr ⟨se, sn, s1, ?_, fun h => by cases h⟩
      have e1 : (cap - 1) * szk kd + szk kd = cap * szk kd := by rw [← Nat.succ_mul]; congr 1; omega
      have e2 : rows.length * szk kd ≤ cap * szk kd := Nat.mul_le_mul_right _ hb.2.1
      refine Nat.max_le.2 ⟨by omega, ?_⟩
      rw [if_neg hc]; omega
    ·obtain ⟨v, v1, v2, _⟩ := (row i r h1).2 j z h2
     rw [ghost0_I v1 v2]; rfl
    ·obtain ⟨v', v1, v2, v3⟩ := (row i r h1).2 j z h2
     rw [ghost0_I v1 v2] at h3
     cases h3
     exact v3
   ·simp at h
  ·
   rename_i cs _ _ fs hu
   split at h
   ·rename_i hcl
    obtain ⟨xs, hxs, h2⟩ := Option.map_eq_some_iff.1 h
    simp only [Prod.mk.injEq] at h2
    obtain ⟨rfl, _⟩ := h2
    rw [hu] at ha
    simp only at ha
    split at ha
    ·rename_i hpl
     obtain ⟨ys, hys, ha2⟩ := Option.map_eq_some_iff.1 ha
     obtain ⟨k1, k2, k3⟩ := kid_struct hl ht hu
     have hxl : xs.length = fs.size := by simpa using mapM_len hxs
     have hyl : ys.length = fs.size := by have := mapM_len hys; simp at this; omega
     have hfl : (cuts (fs.toList.map fun f => P.cellsOf f.type) cs).flatten = cs := cuts_flatten (by rw [hcl, k2])
     have piece : ∀ (i : Nat) x y, (cuts (fs.toList.map fun f => P.cellsOf f.type) cs)[i]? = some x → ys[i]? = some y → x.length = y.length ∧ (∀ v ∈ x, v.oneCell' = true) ∧ ∀ (j : Nat) a b, x[j]? = some a → y[j]? = some b → Rep P (ghost0 w) a b := by
      intro i x y hx hy
      have hi : i < fs.size := by rw [← hyl]; exact (List.getElem?_eq_some_iff.1 hy).1
      have hf : fs.toList[i]? = some fs[i] := by simp [hi]
      have hxi : xs[i]? = some (xs[i]'(by omega)) := List.getElem?_eq_getElem _
      have t1 := mapM_get hxs i
      rw [hf, hxi] at t1
      simp only [Option.bind_some] at t1
      have t2 := mapM_get hys i
      have hz : (fs.toList.zip (xs.map (·.1)))[i]? = some (fs[i], (xs[i]'(by omega)).1) := List.getElem?_zip_eq_some.2 ⟨hf, by simp [hxi]⟩
      rw [hy, hz] at t2
      simp only [Option.bind_some] at t2
      have t3 := cuts_get (ns := fs.toList.map fun f => P.cellsOf f.type) (l := cs) (i := i) (n := P.cellsOf fs[i].type) (by simp [hf])
      rw [hx] at t3
      simp only [Option.some.injEq] at t3
      rw [← List.map_take, ← k3 i fs[i] hf] at t3
      rw [← t3] at t1
      exact ih _ x _ _ y ((hS t hts).2.1 fs hu _ (List.mem_of_getElem? hf)) (k1 _ (List.mem_of_getElem? hf)) t1.symm t2.symm
     have hfa := flatten_at (f := fun a b => Rep P (ghost0 w) a b) (xs := cuts (fs.toList.map fun f => P.cellsOf f.type) cs) (ys := ys) (by rw [cuts_length]; simp [hyl]) fun i x y hx hy => ⟨(piece i x y hx hy).1, (piece i x y hx hy).2.2⟩
     rw [hfl, ha2] at hfa
     refine ⟨hfa.1, fun v hv => ?_, hfa.2⟩
     rw [← hfl] at hv
     obtain ⟨x, hx, hvx⟩ := List.mem_flatten.1 hv
     obtain ⟨i, hi⟩ := List.getElem?_of_mem hx
     have hil := (List.getElem?_eq_some_iff.1 hi).1
     rw [cuts_length] at hil
     simp at hil
     exact (piece i x _ hi (List.getElem?_eq_getElem (by omega))).2.1 v hvx
    ·simp at ha
   ·simp at h
  ·
   rename_i cs _ _ m e hu
   split at h
   ·rename_i hcl
    obtain ⟨xs, hxs, h2⟩ := Option.map_eq_some_iff.1 h
    simp only [Prod.mk.injEq] at h2
    obtain ⟨rfl, _⟩ := h2
    rw [hu] at ha
    simp only at ha
    split at ha
    ·rename_i hpl
     obtain ⟨ys, hys, ha2⟩ := Option.map_eq_some_iff.1 ha
     obtain ⟨k1, k2⟩ := kid_array hl ht hu
     have hxl : xs.length = m := by simpa using mapM_len hxs
     have hyl : ys.length = m := by have := mapM_len hys; simp at this; omega
     have hfl : (cuts (List.replicate m (P.cellsOf e)) cs).flatten = cs := cuts_flatten (by rw [hcl, k2]; simp)
     have piece : ∀ (i : Nat) x y, (cuts (List.replicate m (P.cellsOf e)) cs)[i]? = some x → ys[i]? = some y → x.length = y.length ∧ (∀ v ∈ x, v.oneCell' = true) ∧ ∀ (j : Nat) a b, x[j]? = some a → y[j]? = some b → Rep P (ghost0 w) a b := by
      intro i x y hx hy
      have hi : i < m := by rw [← hyl]; exact (List.getElem?_eq_some_iff.1 hy).1
      have hxi : xs[i]? = some (xs[i]'(by omega)) := List.getElem?_eq_getElem _
      have t1 := mapM_get hxs i
      rw [List.getElem?_range hi, hxi] at t1
      simp only [Option.bind_some] at t1
      have t2 := mapM_get hys i
      rw [hy, List.getElem?_map, hxi] at t2
      simp only [Option.map_some, Option.bind_some] at t2
      have t3 := cuts_get (ns := List.replicate m (P.cellsOf e)) (l := cs) (i := i) (n := P.cellsOf e) (by simp [hi])
      rw [hx] at t3
      simp only [Option.some.injEq] at t3
      have e1 : ((List.replicate m (P.cellsOf e)).take i).sum = i * P.cellsOf e := by simp [List.take_replicate, Nat.min_eq_left (Nat.le_of_lt hi)]
      rw [e1] at t3
      rw [← t3] at t1
      exact ih _ x _ _ y ((hS t hts).2.2 m e hu) k1 t1.symm t2.symm
     have hfa := flatten_at (f := fun a b => Rep P (ghost0 w) a b) (xs := cuts (List.replicate m (P.cellsOf e)) cs) (ys := ys) (by rw [cuts_length]; simp [hyl]) fun i x y hx hy => ⟨(piece i x y hx hy).1, (piece i x y hx hy).2.2⟩
     rw [hfl, ha2] at hfa
     refine ⟨hfa.1, fun v hv => ?_, hfa.2⟩
     rw [← hfl] at hv
     obtain ⟨x, hx, hvx⟩ := List.mem_flatten.1 hv
     obtain ⟨i, hi⟩ := List.getElem?_of_mem hx
     have hil := (List.getElem?_eq_some_iff.1 hi).1
     rw [cuts_length] at hil
     simp at hil
     exact (piece i x _ hi (List.getElem?_eq_getElem (by omega))).2.1 v hvx
    ·simp at ha
   ·simp at h
  ·
   rename_i hu
   simp only [Option.some.injEq, Prod.mk.injEq] at h
   obtain ⟨rfl, rfl⟩ := h
   rw [hu] at ha
   simp only [Option.some.injEq] at ha
   exact one rfl ha.symm rfl .nili
  ·
   rename_i hu
   split at h
   ·simp only [Option.some.injEq, Prod.mk.injEq] at h
    obtain ⟨rfl, rfl⟩ := h
    rw [hu] at ha
    simp at ha
   ·obtain ⟨x, _, h2⟩ := Option.map_eq_some_iff.1 h
    simp only [Prod.mk.injEq] at h2
    obtain ⟨rfl, _⟩ := h2
    rw [hu] at ha
    simp at ha
   ·simp at h
  ·
   rename_i hu
   simp only [Option.some.injEq, Prod.mk.injEq] at h
   obtain ⟨rfl, rfl⟩ := h
   rw [hu] at ha
   simp only [Option.some.injEq] at ha
   exact one rfl ha.symm rfl .nilm
  ·
   rename_i hu
   split at h
   ·split at h
    ·obtain ⟨x, _, h2⟩ := Option.bind_eq_some_iff.1 h
     simp only at h2
     split at h2
     ·simp only [Option.some.injEq, Prod.mk.injEq] at h2
      obtain ⟨rfl, _⟩ := h2
      rw [hu] at ha
      simp at ha
     ·simp at h2
    ·simp at h
   ·simp at h
  ·
   rename_i hu
   simp only [Option.some.injEq, Prod.mk.injEq] at h
   obtain ⟨rfl, rfl⟩ := h
   rw [hu] at ha
   simp only [Option.some.injEq] at ha
   exact one rfl ha.symm rfl .nilf
  all_goals first
   |(simp at h; done)
   |(rename_i hu; simp only [Option.some.injEq, Prod.mk.injEq] at h; obtain ⟨rfl, rfl⟩ := h; rw [hu] at ha; simp at ha; done)
   |(rename_i hu; split at h <;> first | (simp only [Option.some.injEq, Prod.mk.injEq] at h; obtain ⟨rfl, rfl⟩ := h; rw [hu] at ha; simp at ha; done) | (simp at h; done))
end
end Go.Abs
namespace Go.Abs
open Go Go.RowKit Go.ChangeShapes
section
variable {P : Program} {H : Hints} {w : World} {T : Type} {enc : TypeId × Value → T}
def progOkB (P : Program) (H : Hints) : Bool := (List.range P.funcs.size).all fun g => match P.funcs[g]? with
 |some fn => (match fn.body with
  |some c => !(fn.name == "runtime.NumGoroutine") && codeOk H g fn.ntmps c && (List.range (fn.params.size + fn.nfree)).all fun i => (H.keep g).contains i
  |none => true)
 |none => true
theorem progOk_of (h : progOkB P H = true) : ProgOk P H := by
 intro g fn c hf hb
 have := List.all_eq_true.1 h g (List.mem_range.2 (Array.getElem?_eq_some_iff.1 hf).1)
 simp only [hf, hb, Bool.and_eq_true, Bool.not_eq_true'] at this
 exact ⟨this.1.1, this.1.2, fun i hi => List.all_eq_true.1 this.2 i (List.mem_range.2 hi)⟩
def plainSetB (P : Program) (S : List TypeId) : Bool := S.all fun t => match P.underlying t with
 |some .bool => true
 |some (.int _) => true
 |some .string => true
 |some (.slice e) => S.contains e && (kdOf P e).isSome
 |some (.struct fs) => fs.toList.all fun f => S.contains f.type
 |some (.array _ e) => S.contains e
 |_ => false
theorem mapM_isSome {α β : Type} {g : α → Option β} {l : List α} (h : ∀ x ∈ l, (g x).isSome = true) : (l.mapM g).isSome = true := by
 induction l with
 |nil => rfl
 |cons a l ih =>
  obtain ⟨b, hb⟩ := Option.isSome_iff_exists.1 (h a List.mem_cons_self)
  obtain ⟨bs, hbs⟩ := Option.isSome_iff_exists.1 (ih fun x hx => h x (List.mem_cons_of_mem _ hx))
  rw [List.mapM_cons, hb]
  simp [hbs]
theorem trod_plain {S : List TypeId} (hS : plainSetB P S = true) {base : Nat} {sp : Nat → Bool} {held : Bool} : ∀ (fuel : Nat) (t : TypeId) (cs : List Value) (d : DataW T) (ps : List MemPlace), t ∈ S → DataW.trod enc P w base sp held fuel t cs = some (d, ps) → (avD P fuel t d).isSome = true := by
 intro fuel
 induction fuel with
 |zero => intro t cs d ps ht h; simp [DataW.trod] at h
 |succ fuel ih =>
  intro t cs d ps ht h
  have hp := List.all_eq_true.1 hS t ht
  unfold avD
  unfold DataW.trod at h
  split at h
  ·rename_i hu
   simp only [Option.some.injEq, Prod.mk.injEq] at h
   obtain ⟨rfl, rfl⟩ := h
   rw [hu]; rfl
  ·rename_i hu
   split at h
   ·rename_i hk
    simp only [Option.some.injEq, Prod.mk.injEq] at h
    obtain ⟨rfl, rfl⟩ := h
    rw [hu]; simp [hk.2]
   ·simp at h
  ·rename_i hu; rw [hu] at hp; simp at hp
  ·rename_i hu
   split at h
   ·simp only [Option.some.injEq, Prod.mk.injEq] at h
    obtain ⟨rfl, rfl⟩ := h
    rw [hu]; rfl
   ·simp at h
  ·rename_i hu; rw [hu] at hp; simp at hp
  ·rename_i hu; rw [hu] at hp; simp at hp
  ·rename_i hu
   simp only [Option.some.injEq, Prod.mk.injEq] at h
   obtain ⟨rfl, rfl⟩ := h
   rw [hu]; rfl
  ·rename_i e a len cap hu
   rw [hu] at hp
   simp only [Bool.and_eq_true] at hp
   obtain ⟨he, hk⟩ := hp
   obtain ⟨kd, hkd⟩ := Option.isSome_iff_exists.1 hk
   simp only at h
   split at h
   ·obtain ⟨elems, hel, h2⟩ := Option.bind_eq_some_iff.1 h
    obtain ⟨rest, _, h3⟩ := Option.map_eq_some_iff.1 h2
    simp only [Prod.mk.injEq] at h3
    obtain ⟨rfl, _⟩ := h3
    rw [hu]
    simp only [hkd, Option.bind_some, Option.isSome_map]
    refine mapM_isSome fun x hx => ?_
    obtain ⟨y, hy, rfl⟩ := List.mem_map.1 hx
    obtain ⟨i, hi⟩ := List.getElem?_of_mem hy
    have := mapM_get hel i
    rw [hi] at this
    obtain ⟨j, hj, h4⟩ := Option.bind_eq_some_iff.1 this.symm
    obtain ⟨ci, _, h6⟩ := Option.bind_eq_some_iff.1 h4
    exact ih e ci y.1 y.2 (by simpa using he) h6
   ·simp at h
  ·rename_i cs _ _ fs hu
   rw [hu] at hp
   split at h
   ·obtain ⟨xs, hxs, h2⟩ := Option.map_eq_some_iff.1 h
    simp only [Prod.mk.injEq] at h2
    obtain ⟨rfl, _⟩ := h2
    have hxl : xs.length = fs.size := by simpa using mapM_len hxs
    rw [hu]
    simp only [List.length_map, hxl, if_true, Option.isSome_map]
    refine mapM_isSome fun x hx => ?_
    obtain ⟨i, hi⟩ := List.getElem?_of_mem hx
    obtain ⟨h3, h4⟩ := List.getElem?_zip_eq_some.1 hi
    rw [List.getElem?_map] at h4
    obtain ⟨y, hy, h5⟩ := Option.map_eq_some_iff.1 h4
    have := mapM_get hxs i
    rw [hy, h3] at this
    simp only [Option.bind_some] at this
    have h6 := List.all_eq_true.1 hp x.1 (List.mem_of_getElem? h3)
    rw [← h5]
    exact ih _ _ _ _ (by simpa using h6) this.symm
   ·simp at h
  ·rename_i cs _ _ m e hu
   rw [hu] at hp
   split at h
   ·obtain ⟨xs, hxs, h2⟩ := Option.map_eq_some_iff.1 h
    simp only [Prod.mk.injEq] at h2
    obtain ⟨rfl, _⟩ := h2
    have hxl : xs.length = m := by simpa using mapM_len hxs
    rw [hu]
    simp only [List.length_map, hxl, if_true, Option.isSome_map]
    refine mapM_isSome fun x hx => ?_
    obtain ⟨y, hy, rfl⟩ := List.mem_map.1 hx
    obtain ⟨i, hi⟩ := List.getElem?_of_mem hy
    have := mapM_get hxs i
    rw [hi] at this
    obtain ⟨j, hj, h4⟩ := Option.bind_eq_some_iff.1 this.symm
    exact ih e _ y.1 y.2 (by simpa using hp) h4
   ·simp at h
  all_goals first
   |(simp at h; done)
   |(rename_i hu; rw [hu] at hp; simp at hp; done)
theorem trodAll_below (hl : laidOutB P = true) {W W' : World} (hb : Below W.heap.size W W') : ∀ {ts : List TypeId} {vs : List Value} {ds : List (DataW T)} {ps : List MemPlace},
  (ts.all fun t => P.readableRec t && decide (t < P.types.size)) = true → DataW.TrodAll enc P W 0 (fun _ => true) true ts vs ds ps → (∀ x ∈ ps, x.block < W.heap.size) → DataW.TrodAll enc P W' 0 (fun b => decide (b < W.heap.size)) true ts vs ds ps
 |[], [], [], ps, _, h, _ => h
 |t :: ts, v :: vs, d :: ds, ps, hr, h, hlt => by
  obtain ⟨p, q, h1, h2, rfl⟩ := h
  simp only [List.all_cons, Bool.and_eq_true, decide_eq_true_eq] at hr
  exact ⟨p, q, Below.trod hl hr.1.1 hr.1.2 h1 hb (fun x hx => hlt x (List.mem_append_left _ hx)), trodAll_below hl hb hr.2 h2 (fun x hx => hlt x (List.mem_append_right _ hx)), rfl⟩
 |[], _ :: _, _, _, _, h, _ => h.elim
 |[], [], _ :: _, _, _, h, _ => h.elim
 |_ :: _, [], _, _, _, h, _ => h.elim
 |_ :: _, _ :: _, [], _, _, h, _ => h.elim
theorem flat_set {S : List TypeId} (hS : plainSetB P S = true) : ∀ t ∈ S, (∀ e, P.underlying t = some (.slice e) → e ∈ S) ∧ (∀ fs, P.underlying t = some (.struct fs) → ∀ f ∈ fs.toList, f.type ∈ S) ∧ ∀ n e, P.underlying t = some (.array n e) → e ∈ S := by
 intro t ht
 have hp := List.all_eq_true.1 hS t ht
 refine ⟨fun e he => ?_, fun fs hfs f hf => ?_, fun n e he => ?_⟩
 ·rw [he] at hp
  simp only [Bool.and_eq_true] at hp
  simpa using hp.1
 ·rw [hfs] at hp
  simpa using List.all_eq_true.1 hp f hf
 ·rw [he] at hp
  simpa using hp
end
end Go.Abs
namespace Go.Abs
open Go Go.RowKit
section
variable {P : Program} {H : Hints} {w : World}
theorem reps_one {σ : Gh} {vs : List Value} {a : AV} (h : Reps P σ vs [a]) : ∃ v, vs = [v] ∧ Rep P σ v a := h.one
theorem ext_same {g : FuncId} {fn : Func} (hf : P.funcs[g]? = some fn) (hname : (fn.name == "runtime.NumGoroutine") = false) (hb : fn.body.isNone = true) (hn : Extern.findNext fn = none) (he : Extern.find fn = some Extern.AbiNoEscape.same)
  {W : World} {bs : Nat} {σ : Gh} {st : St} {w : World} {vs : List Value} {xa0 : List AV} {a : AV} (hw : WF P W bs σ st w) (hr : Reps P σ vs xa0) (hF : sameX xa0 = some a) : ∃ v, (callFunc g vs.toArray).run P w = .ok (.value v) w ∧ Rep P σ v a := by
 match xa0, hF with
 |[x], hF =>
  simp only [sameX, Option.some.injEq] at hF
  subst hF
  obtain ⟨v, rfl, h⟩ := reps_one hr
  refine ⟨v, ?_, h⟩
  rw [run_callFunc_extern hf hname hb hn he]
  rfl
theorem findIdx_eq (c : UInt8) : ∀ l : List UInt8, (match l.findIdx? (fun b => b == c) with | some i => (i : Int) | none => -1) = Lib.indexByte l c
 |[] => rfl
 |b :: l => by
  have ih := findIdx_eq c l
  rw [List.findIdx?_cons]
  unfold Lib.indexByte
  by_cases h : b == c
  ·simp [h]
  ·simp only [h, Bool.false_eq_true, if_false]
   rw [← ih]
   cases hl : List.findIdx? (fun b => b == c) l with
   |none => rfl
   |some i =>
    simp only [Option.map_some]
    have : (((i : Nat) : Int) == -1) = false := by rw [beq_eq_false_iff_ne]; omega
    simp [this]
theorem ext_index {g : FuncId} {fn : Func} (hf : P.funcs[g]? = some fn) (hname : (fn.name == "runtime.NumGoroutine") = false) (hb : fn.body.isNone = true) (hn : Extern.findNext fn = none) (he : Extern.find fn = some Extern.BytealgIndexByte.indexByte)
  {W : World} {bs : Nat} {σ : Gh} {st : St} {w : World} {vs : List Value} {xa0 : List AV} {a : AV} (hw : WF P W bs σ st w) (hr : Reps P σ vs xa0) (hF : indexX xa0 = some a) : ∃ v, (callFunc g vs.toArray).run P w = .ok (.value v) w ∧ Rep P σ v a := by
 unfold indexX at hF
 split at hF
 ·rename_i s c
  simp only [Option.some.injEq] at hF
  subst hF
  obtain ⟨v1, v2, rfl, h1, h2⟩ := hr.two
  cases h2
  generalize hx : AV.str s = x at h1
  cases h1 <;> cases hx
  rename_i s
  refine ⟨.int .i64 (Lib.indexByte s.data.toList c.toNat.toUInt8), ?_, (congrArg (fun z => Rep P σ (.int .i64 (Lib.indexByte s.data.toList c.toNat.toUInt8)) (.int .i64 z)) (findIdx_eq c.toNat.toUInt8 s.data.toList)).mpr (.int _ _)⟩
  rw [run_callFunc_extern hf hname hb hn he, Lib.run_indexByteString]
  rfl
 ·simp at hF
theorem glob_ip {g : Nat} {row : List AV} (h : ∀ (j : Nat) a, row[j]? = some a → ∃ v, w.cell? ⟨g, j, none⟩ = some v ∧ v.oneCell' = true ∧ Rep P (ghost0 w) v a) : Rep P (ghost0 w) (.pointer (some ⟨g, 0, none⟩)) (.ip row 0) := by
 have := Rep.ip (P := P) (σ := ghost0 w) g 0 row 0 (fun j a hj => by
  obtain ⟨v, h1, h2, _⟩ := h j a hj
  rw [Nat.zero_add, ghost0_I h1 h2]; rfl) (fun j a v hj hv => by
  obtain ⟨u, h1, h2, h3⟩ := h j a hj
  rw [Nat.zero_add, ghost0_I h1 h2] at hv
  cases hv
  exact h3)
 simpa using this
theorem vars_mem : ∀ {l : List (String × DataW Unit)} {ps : List MemPlace}, DataW.LaidVars P w l ps → ∀ n d, (n, d) ∈ l → ∃ g t cs fuel p, P.globalNamed n = some g ∧ (P.globals[g]?).map (·.type) = some t ∧ w.var? P n = some cs ∧
  DataW.trod (fun _ => ()) P w 0 (fun _ => true) false fuel t cs.toList = some (d, p) := by
 intro l
 induction l with
 |nil => intro ps _ n d h; simp at h
 |cons x l ih =>
  intro ps h n d hm
  obtain ⟨n0, d0⟩ := x
  obtain ⟨g, t, cs, fuel, p, q, h1, h2, h3, h4, h5, h6⟩ := h
  rcases List.mem_cons.1 hm with e | hm
  ·cases e
   exact ⟨g, t, cs, fuel, p, h1, h2, h3, h4⟩
  ·exact ih h5 n d hm
end
end Go.Abs
namespace Go.Abs
open Go
def digsVal (l : List UInt8) : Nat := l.foldl (fun a c => a * 10 + (c.toNat - 48)) 0
def isDigs (l : List UInt8) : Bool := !l.isEmpty && l.all fun c => decide (48 ≤ c.toNat) && decide (c.toNat ≤ 57)
def atoiErr (te : TypeId) (E : AV) (l : List UInt8) : AV := .iface te (.ip [.str [65, 116, 111, 105], .str l, E] 0)
def atoiP (te : TypeId) (E : AV) : List AV → St → Option (AOut × St)
 |[.str l], st => if isDigs l = true ∧ l.length ≤ 281474976710656 then (if digsVal l ≤ 9223372036854775807 then some (.ret (.tup [.int .i64 (digsVal l), .nili]), st) else some (.ret (.tup [.int .i64 9223372036854775807, atoiErr te E l]), st)) else none
 |_, _ => none
def itoaP : List AV → St → Option (AOut × St)
 |[.int .i64 n, .int .i64 b], st => if b = 10 ∧ -9223372036854775808 ≤ n ∧ n ≤ 9223372036854775807 then some (.ret (.str (Lib.itoa n)), st) else none
 |_, _ => none
end Go.Abs
namespace Go.Abs
open Go
structure trydFH where
 keep : List Nat
 homes : List (List Nat × Bool)
 ats : List (Nat × Nat × Bool)
 comps : List (Nat × Nat)
 keepObj : Bool
 frz : List Nat
 rck : List (Nat × List (Nat × Nat × Nat) × Bool)
 recov : Bool
 live : List (Nat × List Nat)
 loopKeep : Bool
def trydfh0 : trydFH := ⟨[], [], [], [], false, [], [], false, [], false⟩
def trydfhs : List trydFH := [
 trydfh0,
 trydfh0,
 ⟨[], [], [], [], false, [], [], false, [], true⟩,
 ⟨[0, 1, 2, 3, 4, 5, 7, 9, 12, 20], [], [], [(1, 1), (5, 1)], false, [], [], false, [(3, [1]), (5, [1]), (8, [1, 3])], true⟩,
 ⟨[0, 2, 3, 4, 5, 6, 7, 8, 10, 11, 12, 13, 15, 16, 17, 19, 28], [], [], [(3, 1), (8, 1), (13, 1)], false, [], [], false, [(3, [0]), (6, [0, 3])], true⟩,
 ⟨[0, 1, 4, 5, 6, 7, 8, 9, 10, 12, 13, 15, 16, 18, 20, 106, 117], [], [], [(10, 1), (13, 1), (16, 1)], false, [], [(13, ([], true))], false, [(3, [0, 1]), (13, [0, 1, 5, 10, 13, 16]), (15, [10, 13])], true⟩,
 ⟨[0, 1, 4, 5, 6, 7, 9, 10, 12, 17, 21, 24, 29, 33, 45], [], [], [(8, 1)], false, [], [], false, [(3, [0, 1]), (6, [1, 5, 6, 7]), (8, [1, 5, 6, 7]), (7, [1, 5, 6, 7]), (16, [5, 6]), (19, [6, 9, 10])], true⟩,
 ⟨[0, 1, 3, 4, 5, 7, 8], [], [], [(1, 1), (6, 1)], false, [], [], false, [], true⟩,
 ⟨[0, 1, 2], [], [], [(1, 1)], false, [], [], false, [], true⟩,
 ⟨[0, 1, 2, 3, 4, 6], [], [], [(1, 1), (8, 1)], false, [], [], false, [(3, [1])], true⟩,
 ⟨[0, 2], [], [], [], false, [], [], false, [], true⟩,
 ⟨[0, 2, 3, 4, 5, 19], [], [], [(2, 1)], false, [], [], false, [(7, [2, 3, 4])], true⟩,
 ⟨[0, 1, 2, 3, 4], [], [], [(2, 1), (3, 1)], false, [], [], false, [], true⟩,
 ⟨[0], [], [], [], false, [0], [], false, [], true⟩,
 ⟨[0, 1, 2, 4, 5, 7, 12, 23], [], [], [(2, 1)], false, [], [], false, [(3, [1, 2]), (4, [1, 2, 5]), (6, [1, 2, 5]), (5, [1, 2, 5]), (8, [])], true⟩,
 ⟨[0, 1, 2, 4, 5, 6, 7, 8], [], [], [], false, [], [], false, [], true⟩,
 ⟨[0, 1, 2, 6, 7, 8, 9, 11, 12, 13, 14, 15, 19, 20, 21, 22, 31, 41, 42, 44, 49, 57, 87, 88, 119, 132, 145, 163, 187, 213, 224, 232, 242, 248, 254], [], [], [], false, [], [(8, ([], true)), (9, ([], true)), (40, ([], true)), (47, ([(7, (0, 1))], false)), (51, ([], true)), (55, ([], true))], false, [(3, [0, 1, 2, 6, 7, 12, 13, 14]), (4, [0, 1, 2, 6, 7, 12, 13, 14]), (6, [0, 1, 2, 6, 7, 8, 12, 13, 14, 19, 20, 21]), (7, [0, 1, 2, 6, 7, 8, 12, 13, 14, 19, 20, 21]), (10, [0, 1, 2, 6, 7, 8, 12, 13, 14, 19, 20, 21]), (11, [0, 1, 2, 6, 7, 12, 13, 14]), (12, [0, 1, 2, 6, 7]), (17, [0, 1, 2, 6, 7, 44]), (18, [0, 1, 2, 6, 7]), (21, [0, 1, 6, 7]), (25, [0, 1])], false⟩,
 ⟨[0, 2], [], [], [], false, [], [(1, ([], true))], false, [], true⟩,
 ⟨[0, 1, 2, 3, 4, 5, 8, 15], [], [], [], false, [], [(5, ([(2, (0, 1)), (4, (0, 2))], true))], true, [(5, [0, 1, 2, 4])], true⟩,
 ⟨[0, 2, 3, 26, 48, 60, 69, 78, 94], [], [], [], false, [], [(0, ([], true)), (3, ([], true)), (4, ([], true))], false, [(0, [0]), (1, [0]), (2, [0]), (12, [0, 2]), (15, [0, 2])], true⟩,
 ⟨[0, 1, 4, 5, 6, 13], [], [], [(4, 1), (5, 1), (6, 1)], false, [], [(7, ([(0, (0, 1)), (1, (0, 1))], true))], false, [(4, [0, 1, 4, 5])], true⟩,
 ⟨[0], [], [], [], false, [], [], false, [], true⟩,
 ⟨[0, 1, 4, 5, 10, 14, 26], [], [], [], false, [], [(6, ([], true))], false, [(3, [0, 1]), (4, [0, 1, 5]), (6, [0, 1, 5]), (5, [0, 1, 5]), (8, [])], true⟩,
 ⟨[0, 1, 2, 3, 4, 6, 7, 8, 26, 42, 43, 57, 80, 104, 106, 132, 150, 151, 152], [], [], [], false, [], [(2, ([(12, (0, 1)), (13, (0, 1))], false)), (9, ([(9, (0, 1))], true)), (21, ([], true))], false, [(4, [0, 3, 4]), (18, [0, 4, 7]), (19, [0, 4, 7, 150, 151]), (20, [0, 4, 7, 150, 151]), (22, [0, 4, 7, 150, 151]), (23, [7])], false⟩,
 ⟨[0, 2, 3, 10, 25, 28], [], [], [], false, [], [], false, [(9, [])], true⟩,
 ⟨[0], [], [], [], false, [0], [], false, [], true⟩,
 ⟨[0, 2, 4], [], [], [], false, [], [], false, [], true⟩,
 ⟨[0, 2, 4, 6, 7, 8, 15], [], [], [], false, [], [], false, [(2, [0, 6]), (3, [0, 6, 7]), (6, [0])], true⟩,
 ⟨[0, 2], [], [], [], false, [], [], false, [], true⟩,
 ⟨[0, 2, 3, 4, 6, 8], [], [], [], false, [], [], false, [(8, [])], true⟩,
 ⟨[0], [], [], [], false, [0], [], false, [], true⟩,
 ⟨[0, 1, 4], [], [(14, (10, false))], [], false, [], [], false, [], true⟩,
 ⟨[0, 1, 4, 5], [], [(14, (11, false))], [], false, [], [], false, [], true⟩,
 ⟨[0, 2], [], [], [], false, [], [], false, [], true⟩,
 ⟨[0, 1, 4, 5, 11, 12, 13, 18, 19, 21], [], [], [], false, [], [], false, [(2, [0, 1, 11, 12]), (3, [0, 1, 11, 12]), (7, [0, 1, 5, 11, 12, 18]), (10, [0, 1, 11, 12]), (11, [0, 1, 5, 11, 12]), (12, [0, 1, 5, 11, 12]), (13, [0, 1, 11, 12]), (14, [0])], true⟩,
 ⟨[0, 1, 4], [], [], [], false, [], [], false, [], true⟩,
 ⟨[0, 1, 4, 5, 18, 33], [], [], [], false, [], [(1, ([], true))], false, [(3, [0, 1]), (6, [1, 4])], true⟩,
 ⟨[0, 1, 17], [], [], [], false, [], [], false, [], true⟩,
 ⟨[0, 1, 4, 5, 6, 7, 31, 51, 63, 74, 93, 105], [], [], [], false, [], [(3, ([], true)), (14, ([], true)), (15, ([], true))], false, [(3, [0, 1, 4]), (16, [0, 1, 4, 6, 7]), (18, [0, 1, 4, 6, 7]), (10, [1, 4]), (19, [0, 1, 4, 5, 6])], true⟩,
 ⟨[0, 1, 5, 9, 10, 11, 12, 25], [], [], [], false, [], [(4, ([], true))], false, [(2, [0, 1, 9, 10, 11]), (3, [0, 1, 9, 10, 11]), (7, [0, 1, 9, 10, 11]), (8, [1])], true⟩,
 ⟨[0, 1], [], [], [], false, [], [], false, [], true⟩,
 ⟨[0, 1, 2, 6, 7, 9, 12, 23, 24, 25, 26, 32], [], [], [(6, 1), (7, 1)], false, [], [(9, ([(1, (0, 2)), (2, (0, 1))], true))], false, [(1000001, [0, 1, 2, 6, 7, 9, 23, 24, 25, 32]), (3, [0, 1, 2, 6]), (5, [0, 1, 2, 6, 7, 23, 24, 25]), (6, [0, 1, 2, 6, 7, 23, 24, 25]), (10, [0, 1, 2, 6, 7, 23, 24, 25]), (11, [6, 7])], false⟩,
 ⟨[0, 1, 4], [], [], [], false, [], [], false, [], true⟩,
 ⟨[0, 1, 7], [], [], [], false, [], [], false, [(2, [0])], true⟩,
 ⟨[0, 2, 3, 4, 5, 6, 7, 8, 9, 10, 11, 12, 16, 37, 53, 60, 66, 91, 98], [], [], [], false, [2], [], false, [(5, [0, 3, 4, 5, 6]), (7, [0, 3, 4, 5, 6]), (6, [0, 3, 4, 5, 6]), (12, [0, 3, 5]), (14, [0, 3]), (18, [0, 9, 10, 12]), (19, [0, 9, 10, 12]), (20, [0, 9, 10, 12]), (21, [0, 9, 10, 11, 12]), (22, [0, 9, 10, 11, 12]), (24, [0, 9, 10, 11, 12]), (27, [0, 9, 10, 12]), (28, [0, 9, 10, 12]), (29, [0, 9, 10, 12]), (30, [0, 9, 10, 11]), (32, [9])], true⟩,
 ⟨[0, 2, 3, 4, 5, 7, 9, 10, 11, 15, 24], [], [], [], false, [], [], false, [(2, [0, 9]), (3, [0, 9, 10]), (8, [])], true⟩,
 ⟨[0, 1, 4, 5, 6, 7, 9, 10, 11, 40], [], [], [], false, [], [], false, [(2, [0, 1, 9, 10]), (3, [0, 1, 9, 10]), (8, [0, 1, 9, 10]), (9, [0])], true⟩,
 ⟨[0, 6, 19], [], [], [], false, [], [], false, [], true⟩,
 ⟨[0, 2], [], [], [], false, [], [], false, [], true⟩,
 ⟨[0, 1, 4], [], [], [], false, [], [], false, [], true⟩,
 ⟨[0, 2, 3, 4, 5, 8, 15], [], [], [], false, [], [], false, [(3, [0]), (6, [4])], true⟩,
 ⟨[0, 1, 4, 5, 39], [], [], [], false, [], [(3, ([], true)), (5, ([], true))], false, [(3, [0, 1, 5]), (4, [0, 1, 5]), (5, [0, 5])], false⟩,
 ⟨[0, 2], [], [], [], false, [], [], false, [], true⟩,
 ⟨[0, 2], [], [], [], false, [], [], false, [], true⟩,
 ⟨[0, 2, 3, 10], [], [], [], false, [], [], false, [], true⟩,
 ⟨[0, 1, 4, 7], [([12], true)], [], [], true, [], [], false, [(3, [0, 1])], true⟩,
 ⟨[0], [], [], [], false, [0], [], false, [], true⟩,
 ⟨[0, 1, 4], [], [], [], false, [], [], false, [], true⟩,
 ⟨[0, 1, 4, 5, 15, 25, 28], [], [], [(4, 1)], false, [], [], false, [(3, [0, 1, 4]), (9, [0, 1, 4, 5])], true⟩,
 ⟨[0, 1, 4, 5, 6, 7, 8, 9, 10, 11, 14, 15, 16, 21, 23, 33, 36, 47, 48, 49, 50], [([29, 43], false)], [], [], false, [4], [], false, [(4, [0, 1, 5, 6, 14]), (5, [0, 1, 5, 6, 14, 15]), (12, [0, 5, 6]), (14, [0, 5]), (16, [0, 9, 47, 48, 49]), (17, [0, 9, 47, 48, 49]), (19, [0, 9, 47, 48, 49]), (20, [9])], false⟩,
 ⟨[0, 2, 5, 6, 7], [], [], [], false, [], [], false, [(11, [7]), (12, []), (13, [0])], true⟩,
 trydfh0,
 ⟨[0, 2], [], [], [], false, [], [], false, [], true⟩,
 trydfh0,
 ⟨[0, 2, 3, 5, 13, 17, 18, 19, 30], [], [], [], false, [], [], false, [(3, [0]), (5, [0]), (6, [0, 17, 18]), (7, [0, 17, 18]), (10, [0, 17, 18]), (11, [0])], true⟩,
 ⟨[0, 2, 3, 4, 5, 12], [], [], [], false, [], [], false, [(4, [4])], true⟩,
 ⟨[0, 2, 3, 4, 5, 6, 7, 8, 9, 10, 11, 12, 16, 23, 45, 57, 59, 75, 77, 98], [], [], [], false, [], [], false, [(4, [0, 4]), (9, [0, 4, 5, 6]), (13, [0, 5, 8, 9]), (16, [0, 5, 8, 10]), (18, [0, 5, 8, 10]), (21, [0, 5, 8, 10, 11]), (23, [0, 5, 10, 11]), (26, [5, 10, 11, 12])], true⟩,
 ⟨[0, 1, 4, 5, 11, 25, 50], [([24, 49, 77, 10], true)], [], [], true, [], [], false, [(7, [0, 1, 5, 25])], true⟩,
 ⟨[0, 1, 4], [], [], [], false, [], [], false, [], true⟩,
 ⟨[0, 1, 4, 5, 10, 20, 33], [], [], [(4, 1), (5, 1)], false, [], [(7, ([(4, (0, 1))], true)), (10, ([(0, (0, 1))], true))], false, [(3, [0, 1, 4, 5]), (7, [0, 1, 4, 5])], true⟩,
 ⟨[0, 1, 4, 5, 6, 7, 32, 54], [], [], [], false, [], [], false, [(5, [0, 1]), (8, [])], true⟩,
 ⟨[0, 1, 4, 5, 6, 7, 9, 11, 17, 23, 34], [], [], [], false, [], [], false, [(4, [0]), (8, [0, 5, 6]), (13, [5, 7]), (14, [0, 1])], true⟩,
 ⟨[0, 2, 3, 4, 5, 6, 8, 9, 10, 30, 39, 44, 47, 48, 49, 50, 56, 66], [], [], [], false, [], [], false, [(8, [0, 5]), (10, [5, 6, 47, 48, 49]), (11, [5, 6, 47, 48, 49]), (15, [5, 6, 8, 47, 48, 49]), (16, [5, 6, 47, 48, 49]), (17, [5, 6]), (19, [6]), (20, [0])], true⟩,
 ⟨[0, 1, 2, 3, 4, 10, 11, 12, 19, 26, 34], [], [], [], false, [], [], false, [(10, [4])], true⟩,
 ⟨[0, 1, 4, 5, 6, 7, 8, 13, 22, 31, 37, 49, 52, 53, 54, 55, 66], [], [], [(4, 1)], false, [], [], false, [(12, [0, 1, 4, 5]), (16, [0, 1, 4, 5]), (17, [0, 1, 4, 5, 52, 53, 54]), (18, [0, 1, 4, 5, 52, 53, 54]), (21, [0, 1, 4, 5, 52, 53, 54]), (22, [4, 5])], true⟩,
 ⟨[0, 1, 2, 6, 7], [], [], [(6, 1), (7, 1)], false, [], [], false, [], true⟩,
 ⟨[0, 1, 4, 5, 6, 7, 8, 9, 10, 17, 19, 20, 21, 31, 37, 62, 85, 110], [], [], [], false, [], [(9, ([], true)), (18, ([], true))], false, [(3, [0, 1, 19, 20]), (4, [0, 1, 19, 20]), (8, [0, 1, 6, 19, 20]), (10, [0, 1, 19, 20]), (11, []), (12, [0, 1]), (14, [0, 1, 7, 8]), (15, [0, 1, 7, 8]), (19, [0, 1, 7, 8, 9, 10]), (22, [])], true⟩,
 ⟨[0, 1, 4, 5, 6, 7, 8, 9, 10, 13, 15, 16, 17, 27, 33, 58, 78, 95], [], [], [], false, [], [(9, ([], true))], false, [(3, [0, 1, 15, 16]), (4, [0, 1, 15, 16]), (8, [0, 1, 6, 15, 16]), (10, [0, 1, 15, 16]), (11, []), (12, [0, 1]), (14, [0, 1, 7, 8]), (15, [0, 1, 7, 8]), (19, [0, 1, 7, 8, 9, 10]), (22, [])], false⟩,
 ⟨[0, 2, 4], [], [], [], false, [], [], false, [(3, [0])], true⟩,
 ⟨[0, 2, 3], [], [], [], false, [], [], false, [], true⟩,
 ⟨[0, 1, 4, 5, 6, 7, 8, 9, 10, 11, 12, 13, 14, 15, 16, 20, 99, 139, 161], [], [], [], false, [], [(7, ([], true)), (8, ([], true)), (9, ([], true)), (10, ([], true)), (17, ([], true)), (18, ([], true)), (23, ([], true))], false, [(1, [0, 1, 4]), (2, [0, 1, 4]), (12, [0, 1, 4]), (20, [0, 4, 12]), (25, [0, 4, 12])], true⟩,
 ⟨[0, 1, 2, 3, 4, 10, 11, 12, 13, 14, 15, 16, 17, 18, 28, 30, 34, 46, 68, 89, 94], [([98], false)], [], [], false, [10], [], false, [(3, [0, 1, 2, 3, 4, 10, 11]), (7, [0, 1, 2, 3, 4, 10, 11, 12, 13]), (18, [0, 1, 3, 4, 10, 11, 12, 13, 17]), (19, [0, 1, 3, 4, 10, 11, 12, 13, 17]), (23, [0, 1, 3, 4, 10, 11, 12, 13]), (11, [0, 1, 3, 4, 10, 11, 12, 13, 14, 15, 16]), (12, [0, 1, 3, 4, 10, 11, 12, 13, 14, 15, 16]), (15, [0, 1, 3, 4, 10, 11, 12, 13]), (25, [0, 3, 4, 10, 11, 12, 13]), (28, [0, 4, 10, 11, 12, 13]), (30, [10, 12, 13])], true⟩,
 ⟨[0, 1, 2, 6, 7, 8, 9, 10, 11, 13, 16, 17, 21, 38, 41, 52, 62, 69], [], [], [], false, [], [], false, [(3, [0, 1, 2]), (10, [0, 1, 2, 8]), (14, [2, 8, 9]), (16, [2, 8, 9]), (19, [8, 9, 10]), (21, [8, 9]), (24, [11])], true⟩,
 ⟨[0, 1, 4], [], [], [], true, [], [(1, ([(3, (0, 1))], false))], false, [], true⟩,
 ⟨[0, 1, 4], [], [], [], true, [], [(1, ([(3, (0, 1))], false))], false, [], true⟩,
 ⟨[0, 1, 2, 6], [], [], [], true, [], [], false, [], true⟩,
 ⟨[0, 1, 2, 6], [], [], [], true, [], [], false, [], true⟩,
 ⟨[0, 2], [], [], [], false, [], [], false, [], true⟩,
 ⟨[0, 2, 4, 8, 14], [], [], [], false, [], [], false, [(4, [0, 2]), (7, [0, 2]), (10, [0, 2])], true⟩,
 ⟨[0, 2, 3], [], [], [], false, [], [], false, [(3, [])], true⟩,
 ⟨[0, 2], [], [], [], false, [], [], false, [], true⟩,
 ⟨[0, 2], [], [], [], false, [], [], false, [(2, [0])], true⟩,
 ⟨[0, 1, 2, 6, 7, 8, 9, 10, 11, 12, 13, 15, 16, 17, 19, 25, 32, 37, 40, 52, 64, 77, 83, 85, 90, 92, 99, 100, 101, 102, 106, 112, 121, 137, 141, 159, 169], [], [], [], false, [], [], false, [(3, [0, 1, 2]), (21, [0, 1, 2, 8, 9]), (25, [0, 1, 2, 8, 9]), (32, [0, 1, 2, 8, 9, 10]), (36, [1, 8, 9, 10, 11, 12, 13, 99, 100, 101]), (37, [1, 8, 9, 10, 11, 12, 13, 99, 100, 101]), (46, [1, 8, 9, 10, 11, 12, 13, 16, 99, 100, 101]), (48, [1, 8, 9, 10, 11, 12, 13, 16, 99, 100, 101]), (50, [1, 8, 9, 10, 11, 12, 13, 16, 99, 100, 101]), (54, [1, 8, 9, 10, 11, 12, 17, 99, 100, 101]), (55, [1, 8, 9, 10, 11, 12, 13, 99, 100, 101]), (56, [9, 12, 13]), (58, [13])], true⟩,
 ⟨[0, 2, 3, 6], [], [], [], false, [], [], false, [(3, [0])], true⟩,
 ⟨[0, 2], [], [], [], false, [], [], false, [], true⟩,
 ⟨[0, 2, 4], [], [], [], false, [], [], false, [(3, [0])], true⟩,
 ⟨[0, 2, 4], [], [], [], false, [], [], false, [(3, [0])], true⟩,
 ⟨[0, 2], [], [], [], false, [], [], false, [], true⟩,
 ⟨[0, 2, 3, 4, 5, 18, 46, 54, 83, 87, 89, 91], [], [], [], false, [], [], false, [(5, [0, 3, 4]), (10, [0, 3, 4, 5]), (12, [0, 3, 4, 5]), (14, [0, 3, 4, 5]), (17, [0, 4, 5]), (18, [0, 3, 4, 5]), (20, [0, 4, 5]), (11, [0, 3, 4, 5]), (21, [3])], true⟩,
 trydfh0,
 trydfh0,
 trydfh0,
 trydfh0,
 trydfh0,
 trydfh0,
 trydfh0,
 trydfh0,
 trydfh0,
 trydfh0,
 trydfh0,
 trydfh0,
 trydfh0,
 trydfh0,
 trydfh0,
 trydfh0,
 trydfh0,
 trydfh0,
 trydfh0,
 trydfh0,
 trydfh0,
 trydfh0,
 trydfh0,
 trydfh0,
 trydfh0,
 trydfh0,
 trydfh0,
 trydfh0,
 trydfh0,
 trydfh0,
 trydfh0,
 trydfh0,
 trydfh0,
 trydfh0,
 trydfh0,
 ⟨[], [], [], [(20, 2)], false, [], [], false, [], true⟩]
def trydcells : List (Nat × List Nat) := [(113, [0, 1]), (114, [0, 1])]
def trydglobs : List (Nat × List AV) := [(0, [.int .u8 (0), .int .u8 (0), .int .u8 (0), .int .u8 (0), .int .u8 (0), .int .u8 (0), .int .u8 (0), .int .u8 (0), .int .u8 (0), .int .u8 (1), .int .u8 (1), .int .u8 (1), .int .u8 (1), .int .u8 (1), .int .u8 (0), .int .u8 (0), .int .u8 (0), .int .u8 (0), .int .u8 (0), .int .u8 (0), .int .u8 (0), .int .u8 (0), .int .u8 (0), .int .u8 (0), .int .u8 (0), .int .u8 (0), .int .u8 (0), .int .u8 (0), .int .u8 (0), .int .u8 (0), .int .u8 (0), .int .u8 (0), .int .u8 (1), .int .u8 (0), .int .u8 (0), .int .u8 (0), .int .u8 (0), .int .u8 (0), .int .u8 (0), .int .u8 (0), .int .u8 (0), .int .u8 (0), .int .u8 (0), .int .u8 (0), .int .u8 (0), .int .u8 (0), .int .u8 (0), .int .u8 (0), .int .u8 (0), .int .u8 (0), .int .u8 (0), .int .u8 (0), .int .u8 (0), .int .u8 (0), .int .u8 (0), .int .u8 (0), .int .u8 (0), .int .u8 (0), .int .u8 (0), .int .u8 (0), .int .u8 (0), .int .u8 (0), .int .u8 (0), .int .u8 (0), .int .u8 (0), .int .u8 (0), .int .u8 (0), .int .u8 (0), .int .u8 (0), .int .u8 (0), .int .u8 (0), .int .u8 (0), .int .u8 (0), .int .u8 (0), .int .u8 (0), .int .u8 (0), .int .u8 (0), .int .u8 (0), .int .u8 (0), .int .u8 (0), .int .u8 (0), .int .u8 (0), .int .u8 (0), .int .u8 (0), .int .u8 (0), .int .u8 (0), .int .u8 (0), .int .u8 (0), .int .u8 (0), .int .u8 (0), .int .u8 (0), .int .u8 (0), .int .u8 (0), .int .u8 (0), .int .u8 (0), .int .u8 (0), .int .u8 (0), .int .u8 (0), .int .u8 (0), .int .u8 (0), .int .u8 (0), .int .u8 (0), .int .u8 (0), .int .u8 (0), .int .u8 (0), .int .u8 (0), .int .u8 (0), .int .u8 (0), .int .u8 (0), .int .u8 (0), .int .u8 (0), .int .u8 (0), .int .u8 (0), .int .u8 (0), .int .u8 (0), .int .u8 (0), .int .u8 (0), .int .u8 (0), .int .u8 (0), .int .u8 (0), .int .u8 (0), .int .u8 (0), .int .u8 (0), .int .u8 (0), .int .u8 (0), .int .u8 (0), .int .u8 (0), .int .u8 (0), .int .u8 (0), .int .u8 (0), .int .u8 (0), .int .u8 (0), .int .u8 (0), .int .u8 (0), .int .u8 (0), .int .u8 (0), .int .u8 (0), .int .u8 (0), .int .u8 (0), .int .u8 (0), .int .u8 (0), .int .u8 (0), .int .u8 (0), .int .u8 (0), .int .u8 (0), .int .u8 (0), .int .u8 (0), .int .u8 (0), .int .u8 (0), .int .u8 (0), .int .u8 (0), .int .u8 (0), .int .u8 (0), .int .u8 (0), .int .u8 (0), .int .u8 (0), .int .u8 (0), .int .u8 (0), .int .u8 (0), .int .u8 (0), .int .u8 (0), .int .u8 (0), .int .u8 (0), .int .u8 (0), .int .u8 (0), .int .u8 (0), .int .u8 (0), .int .u8 (0), .int .u8 (0), .int .u8 (0), .int .u8 (0), .int .u8 (0), .int .u8 (0), .int .u8 (0), .int .u8 (0), .int .u8 (0), .int .u8 (0), .int .u8 (0), .int .u8 (0), .int .u8 (0), .int .u8 (0), .int .u8 (0), .int .u8 (0), .int .u8 (0), .int .u8 (0), .int .u8 (0), .int .u8 (0), .int .u8 (0), .int .u8 (0), .int .u8 (0), .int .u8 (0), .int .u8 (0), .int .u8 (0), .int .u8 (0), .int .u8 (0), .int .u8 (0), .int .u8 (0), .int .u8 (0), .int .u8 (0), .int .u8 (0), .int .u8 (0), .int .u8 (0), .int .u8 (0), .int .u8 (0), .int .u8 (0), .int .u8 (0), .int .u8 (0), .int .u8 (0), .int .u8 (0), .int .u8 (0), .int .u8 (0), .int .u8 (0), .int .u8 (0), .int .u8 (0), .int .u8 (0), .int .u8 (0), .int .u8 (0), .int .u8 (0), .int .u8 (0), .int .u8 (0), .int .u8 (0), .int .u8 (0), .int .u8 (0), .int .u8 (0), .int .u8 (0), .int .u8 (0), .int .u8 (0), .int .u8 (0), .int .u8 (0), .int .u8 (0), .int .u8 (0), .int .u8 (0), .int .u8 (0), .int .u8 (0), .int .u8 (0), .int .u8 (0), .int .u8 (0), .int .u8 (0), .int .u8 (0), .int .u8 (0), .int .u8 (0), .int .u8 (0), .int .u8 (0), .int .u8 (0), .int .u8 (0), .int .u8 (0), .int .u8 (0), .int .u8 (0), .int .u8 (0), .int .u8 (0), .int .u8 (0), .int .u8 (0), .int .u8 (0), .int .u8 (0), .int .u8 (0), .int .u8 (0)]), (3, [.int .u8 (240), .int .u8 (240), .int .u8 (240), .int .u8 (240), .int .u8 (240), .int .u8 (240), .int .u8 (240), .int .u8 (240), .int .u8 (240), .int .u8 (240), .int .u8 (240), .int .u8 (240), .int .u8 (240), .int .u8 (240), .int .u8 (240), .int .u8 (240), .int .u8 (240), .int .u8 (240), .int .u8 (240), .int .u8 (240), .int .u8 (240), .int .u8 (240), .int .u8 (240), .int .u8 (240), .int .u8 (240), .int .u8 (240), .int .u8 (240), .int .u8 (240), .int .u8 (240), .int .u8 (240), .int .u8 (240), .int .u8 (240), .int .u8 (240), .int .u8 (240), .int .u8 (240), .int .u8 (240), .int .u8 (240), .int .u8 (240), .int .u8 (240), .int .u8 (240), .int .u8 (240), .int .u8 (240), .int .u8 (240), .int .u8 (240), .int .u8 (240), .int .u8 (240), .int .u8 (240), .int .u8 (240), .int .u8 (240), .int .u8 (240), .int .u8 (240), .int .u8 (240), .int .u8 (240), .int .u8 (240), .int .u8 (240), .int .u8 (240), .int .u8 (240), .int .u8 (240), .int .u8 (240), .int .u8 (240), .int .u8 (240), .int .u8 (240), .int .u8 (240), .int .u8 (240), .int .u8 (240), .int .u8 (240), .int .u8 (240), .int .u8 (240), .int .u8 (240), .int .u8 (240), .int .u8 (240), .int .u8 (240), .int .u8 (240), .int .u8 (240), .int .u8 (240), .int .u8 (240), .int .u8 (240), .int .u8 (240), .int .u8 (240), .int .u8 (240), .int .u8 (240), .int .u8 (240), .int .u8 (240), .int .u8 (240), .int .u8 (240), .int .u8 (240), .int .u8 (240), .int .u8 (240), .int .u8 (240), .int .u8 (240), .int .u8 (240), .int .u8 (240), .int .u8 (240), .int .u8 (240), .int .u8 (240), .int .u8 (240), .int .u8 (240), .int .u8 (240), .int .u8 (240), .int .u8 (240), .int .u8 (240), .int .u8 (240), .int .u8 (240), .int .u8 (240), .int .u8 (240), .int .u8 (240), .int .u8 (240), .int .u8 (240), .int .u8 (240), .int .u8 (240), .int .u8 (240), .int .u8 (240), .int .u8 (240), .int .u8 (240), .int .u8 (240), .int .u8 (240), .int .u8 (240), .int .u8 (240), .int .u8 (240), .int .u8 (240), .int .u8 (240), .int .u8 (240), .int .u8 (240), .int .u8 (240), .int .u8 (240), .int .u8 (240), .int .u8 (240), .int .u8 (240), .int .u8 (241), .int .u8 (241), .int .u8 (241), .int .u8 (241), .int .u8 (241), .int .u8 (241), .int .u8 (241), .int .u8 (241), .int .u8 (241), .int .u8 (241), .int .u8 (241), .int .u8 (241), .int .u8 (241), .int .u8 (241), .int .u8 (241), .int .u8 (241), .int .u8 (241), .int .u8 (241), .int .u8 (241), .int .u8 (241), .int .u8 (241), .int .u8 (241), .int .u8 (241), .int .u8 (241), .int .u8 (241), .int .u8 (241), .int .u8 (241), .int .u8 (241), .int .u8 (241), .int .u8 (241), .int .u8 (241), .int .u8 (241), .int .u8 (241), .int .u8 (241), .int .u8 (241), .int .u8 (241), .int .u8 (241), .int .u8 (241), .int .u8 (241), .int .u8 (241), .int .u8 (241), .int .u8 (241), .int .u8 (241), .int .u8 (241), .int .u8 (241), .int .u8 (241), .int .u8 (241), .int .u8 (241), .int .u8 (241), .int .u8 (241), .int .u8 (241), .int .u8 (241), .int .u8 (241), .int .u8 (241), .int .u8 (241), .int .u8 (241), .int .u8 (241), .int .u8 (241), .int .u8 (241), .int .u8 (241), .int .u8 (241), .int .u8 (241), .int .u8 (241), .int .u8 (241), .int .u8 (241), .int .u8 (241), .int .u8 (2), .int .u8 (2), .int .u8 (2), .int .u8 (2), .int .u8 (2), .int .u8 (2), .int .u8 (2), .int .u8 (2), .int .u8 (2), .int .u8 (2), .int .u8 (2), .int .u8 (2), .int .u8 (2), .int .u8 (2), .int .u8 (2), .int .u8 (2), .int .u8 (2), .int .u8 (2), .int .u8 (2), .int .u8 (2), .int .u8 (2), .int .u8 (2), .int .u8 (2), .int .u8 (2), .int .u8 (2), .int .u8 (2), .int .u8 (2), .int .u8 (2), .int .u8 (2), .int .u8 (2), .int .u8 (19), .int .u8 (3), .int .u8 (3), .int .u8 (3), .int .u8 (3), .int .u8 (3), .int .u8 (3), .int .u8 (3), .int .u8 (3), .int .u8 (3), .int .u8 (3), .int .u8 (3), .int .u8 (3), .int .u8 (35), .int .u8 (3), .int .u8 (3), .int .u8 (52), .int .u8 (4), .int .u8 (4), .int .u8 (4), .int .u8 (68), .int .u8 (241), .int .u8 (241), .int .u8 (241), .int .u8 (241), .int .u8 (241), .int .u8 (241), .int .u8 (241), .int .u8 (241), .int .u8 (241), .int .u8 (241), .int .u8 (241)]), (4, [.int .u8 (128), .int .u8 (191), .int .u8 (160), .int .u8 (191), .int .u8 (128), .int .u8 (159), .int .u8 (144), .int .u8 (191), .int .u8 (128), .int .u8 (143), .int .u8 (0), .int .u8 (0), .int .u8 (0), .int .u8 (0), .int .u8 (0), .int .u8 (0), .int .u8 (0), .int .u8 (0), .int .u8 (0), .int .u8 (0), .int .u8 (0), .int .u8 (0), .int .u8 (0), .int .u8 (0), .int .u8 (0), .int .u8 (0), .int .u8 (0), .int .u8 (0), .int .u8 (0), .int .u8 (0), .int .u8 (0), .int .u8 (0)]), (7, [.iface 149 (.ip [.str [118, 97, 108, 117, 101, 32, 111, 117, 116, 32, 111, 102, 32, 114, 97, 110, 103, 101]] 0)])]
def trydat (f : Nat) : trydFH := trydfhs.getD f trydfh0
def trydhints : Hints :=
 {keep := fun f => (trydat f).keep, glob := fun g => (trydglobs.find? (·.1 == g)).map (·.2), homes := fun f => (trydat f).homes.length,
  home := fun f s => match (trydat f).homes.findIdx? (·.1.contains s) with | some i => some (none, i, (((trydat f).homes[i]?).map (·.2)).getD false) | none => (((trydat f).ats.find? fun x => x.1 == s).map fun x => (some x.2.1, 0, x.2.2)),
  comp := fun f s => (((trydat f).comps.find? fun x => x.1 == s).map (·.2)).getD 0,
  cidx := fun t c => (((trydcells.find? (·.1 == t)).bind fun x => x.2.idxOf? c)).getD 0,
  keepObj := fun f => (trydat f).keepObj, loopKeep := fun f => (trydat f).loopKeep, frz := fun f s => (trydat f).frz.contains s,
  recheck := fun f id => (((trydat f).rck.find? fun x => x.1 == id).map fun x => x.2.1).getD [],
  pok := fun f id => (((trydat f).rck.find? fun x => x.1 == id).map fun x => x.2.2).getD false,
  prim := fun f => if f = 65 then some (atoiP 131 (.iface 149 (.ip [.str [118, 97, 108, 117, 101, 32, 111, 117, 116, 32, 111, 102, 32, 114, 97, 110, 103, 101]] 0))) else if f = 71 then some itoaP else none,
  ext := fun f => if f = 61 then some sameX else if f = 63 then some indexX else none,
  recov := fun f => (trydat f).recov,
  live := fun f k => ((trydat f).live.find? fun x => x.1 == k).map (·.2) }
end Go.Abs
namespace Go.Abs
open Go Go.Proofs
set_option maxRecDepth 100000
noncomputable abbrev cw := callW Tryd.prog trydhints
noncomputable abbrev aw := atW Tryd.prog trydhints
noncomputable abbrev gw := atG (P := Tryd.prog) (H := trydhints)
def T_space : List AV := [AV.int .u8 0, AV.int .u8 0, AV.int .u8 0, AV.int .u8 0, AV.int .u8 0, AV.int .u8 0, AV.int .u8 0, AV.int .u8 0, AV.int .u8 0, AV.int .u8 1, AV.int .u8 1, AV.int .u8 1, AV.int .u8 1, AV.int .u8 1, AV.int .u8 0, AV.int .u8 0, AV.int .u8 0, AV.int .u8 0, AV.int .u8 0, AV.int .u8 0, AV.int .u8 0, AV.int .u8 0, AV.int .u8 0, AV.int .u8 0, AV.int .u8 0, AV.int .u8 0, AV.int .u8 0, AV.int .u8 0, AV.int .u8 0, AV.int .u8 0, AV.int .u8 0, AV.int .u8 0, AV.int .u8 1, AV.int .u8 0, AV.int .u8 0, AV.int .u8 0, AV.int .u8 0, AV.int .u8 0, AV.int .u8 0, AV.int .u8 0, AV.int .u8 0, AV.int .u8 0, AV.int .u8 0, AV.int .u8 0, AV.int .u8 0, AV.int .u8 0, AV.int .u8 0, AV.int .u8 0, AV.int .u8 0, AV.int .u8 0, AV.int .u8 0, AV.int .u8 0, AV.int .u8 0, AV.int .u8 0, AV.int .u8 0, AV.int .u8 0, AV.int .u8 0, AV.int .u8 0, AV.int .u8 0, AV.int .u8 0, AV.int .u8 0, AV.int .u8 0, AV.int .u8 0, AV.int .u8 0, AV.int .u8 0, AV.int .u8 0, AV.int .u8 0, AV.int .u8 0, AV.int .u8 0, AV.int .u8 0, AV.int .u8 0, AV.int .u8 0, AV.int .u8 0, AV.int .u8 0, AV.int .u8 0, AV.int .u8 0, AV.int .u8 0, AV.int .u8 0, AV.int .u8 0, AV.int .u8 0, AV.int .u8 0, AV.int .u8 0, AV.int .u8 0, AV.int .u8 0, AV.int .u8 0, AV.int .u8 0, AV.int .u8 0, AV.int .u8 0, AV.int .u8 0, AV.int .u8 0, AV.int .u8 0, AV.int .u8 0, AV.int .u8 0, AV.int .u8 0, AV.int .u8 0, AV.int .u8 0, AV.int .u8 0, AV.int .u8 0, AV.int .u8 0, AV.int .u8 0, AV.int .u8 0, AV.int .u8 0, AV.int .u8 0, AV.int .u8 0, AV.int .u8 0, AV.int .u8 0, AV.int .u8 0, AV.int .u8 0, AV.int .u8 0, AV.int .u8 0, AV.int .u8 0, AV.int .u8 0, AV.int .u8 0, AV.int .u8 0, AV.int .u8 0, AV.int .u8 0, AV.int .u8 0, AV.int .u8 0, AV.int .u8 0, AV.int .u8 0, AV.int .u8 0, AV.int .u8 0, AV.int .u8 0, AV.int .u8 0, AV.int .u8 0, AV.int .u8 0, AV.int .u8 0, AV.int .u8 0, AV.int .u8 0, AV.int .u8 0, AV.int .u8 0, AV.int .u8 0, AV.int .u8 0, AV.int .u8 0, AV.int .u8 0, AV.int .u8 0, AV.int .u8 0, AV.int .u8 0, AV.int .u8 0, AV.int .u8 0, AV.int .u8 0, AV.int .u8 0, AV.int .u8 0, AV.int .u8 0, AV.int .u8 0, AV.int .u8 0, AV.int .u8 0, AV.int .u8 0, AV.int .u8 0, AV.int .u8 0, AV.int .u8 0, AV.int .u8 0, AV.int .u8 0, AV.int .u8 0, AV.int .u8 0, AV.int .u8 0, AV.int .u8 0, AV.int .u8 0, AV.int .u8 0, AV.int .u8 0, AV.int .u8 0, AV.int .u8 0, AV.int .u8 0, AV.int .u8 0, AV.int .u8 0, AV.int .u8 0, AV.int .u8 0, AV.int .u8 0, AV.int .u8 0, AV.int .u8 0, AV.int .u8 0, AV.int .u8 0, AV.int .u8 0, AV.int .u8 0, AV.int .u8 0, AV.int .u8 0, AV.int .u8 0, AV.int .u8 0, AV.int .u8 0, AV.int .u8 0, AV.int .u8 0, AV.int .u8 0, AV.int .u8 0, AV.int .u8 0, AV.int .u8 0, AV.int .u8 0, AV.int .u8 0, AV.int .u8 0, AV.int .u8 0, AV.int .u8 0, AV.int .u8 0, AV.int .u8 0, AV.int .u8 0, AV.int .u8 0, AV.int .u8 0, AV.int .u8 0, AV.int .u8 0, AV.int .u8 0, AV.int .u8 0, AV.int .u8 0, AV.int .u8 0, AV.int .u8 0, AV.int .u8 0, AV.int .u8 0, AV.int .u8 0, AV.int .u8 0, AV.int .u8 0, AV.int .u8 0, AV.int .u8 0, AV.int .u8 0, AV.int .u8 0, AV.int .u8 0, AV.int .u8 0, AV.int .u8 0, AV.int .u8 0, AV.int .u8 0, AV.int .u8 0, AV.int .u8 0, AV.int .u8 0, AV.int .u8 0, AV.int .u8 0, AV.int .u8 0, AV.int .u8 0, AV.int .u8 0, AV.int .u8 0, AV.int .u8 0, AV.int .u8 0, AV.int .u8 0, AV.int .u8 0, AV.int .u8 0, AV.int .u8 0, AV.int .u8 0, AV.int .u8 0, AV.int .u8 0, AV.int .u8 0, AV.int .u8 0, AV.int .u8 0, AV.int .u8 0, AV.int .u8 0, AV.int .u8 0, AV.int .u8 0, AV.int .u8 0, AV.int .u8 0, AV.int .u8 0, AV.int .u8 0, AV.int .u8 0, AV.int .u8 0, AV.int .u8 0, AV.int .u8 0, AV.int .u8 0, AV.int .u8 0, AV.int .u8 0, AV.int .u8 0, AV.int .u8 0, AV.int .u8 0, AV.int .u8 0]
def T_first : List AV := [AV.int .u8 240, AV.int .u8 240, AV.int .u8 240, AV.int .u8 240, AV.int .u8 240, AV.int .u8 240, AV.int .u8 240, AV.int .u8 240, AV.int .u8 240, AV.int .u8 240, AV.int .u8 240, AV.int .u8 240, AV.int .u8 240, AV.int .u8 240, AV.int .u8 240, AV.int .u8 240, AV.int .u8 240, AV.int .u8 240, AV.int .u8 240, AV.int .u8 240, AV.int .u8 240, AV.int .u8 240, AV.int .u8 240, AV.int .u8 240, AV.int .u8 240, AV.int .u8 240, AV.int .u8 240, AV.int .u8 240, AV.int .u8 240, AV.int .u8 240, AV.int .u8 240, AV.int .u8 240, AV.int .u8 240, AV.int .u8 240, AV.int .u8 240, AV.int .u8 240, AV.int .u8 240, AV.int .u8 240, AV.int .u8 240, AV.int .u8 240, AV.int .u8 240, AV.int .u8 240, AV.int .u8 240, AV.int .u8 240, AV.int .u8 240, AV.int .u8 240, AV.int .u8 240, AV.int .u8 240, AV.int .u8 240, AV.int .u8 240, AV.int .u8 240, AV.int .u8 240, AV.int .u8 240, AV.int .u8 240, AV.int .u8 240, AV.int .u8 240, AV.int .u8 240, AV.int .u8 240, AV.int .u8 240, AV.int .u8 240, AV.int .u8 240, AV.int .u8 240, AV.int .u8 240, AV.int .u8 240, AV.int .u8 240, AV.int .u8 240, AV.int .u8 240, AV.int .u8 240, AV.int .u8 240, AV.int .u8 240, AV.int .u8 240, AV.int .u8 240, AV.int .u8 240, AV.int .u8 240, AV.int .u8 240, AV.int .u8 240, AV.int .u8 240, AV.int .u8 240, AV.int .u8 240, AV.int .u8 240, AV.int .u8 240, AV.int .u8 240, AV.int .u8 240, AV.int .u8 240, AV.int .u8 240, AV.int .u8 240, AV.int .u8 240, AV.int .u8 240, AV.int .u8 240, AV.int .u8 240, AV.int .u8 240, AV.int .u8 240, AV.int .u8 240, AV.int .u8 240, AV.int .u8 240, AV.int .u8 240, AV.int .u8 240, AV.int .u8 240, AV.int .u8 240, AV.int .u8 240, AV.int .u8 240, AV.int .u8 240, AV.int .u8 240, AV.int .u8 240, AV.int .u8 240, AV.int .u8 240, AV.int .u8 240, AV.int .u8 240, AV.int .u8 240, AV.int .u8 240, AV.int .u8 240, AV.int .u8 240, AV.int .u8 240, AV.int .u8 240, AV.int .u8 240, AV.int .u8 240, AV.int .u8 240, AV.int .u8 240, AV.int .u8 240, AV.int .u8 240, AV.int .u8 240, AV.int .u8 240, AV.int .u8 240, AV.int .u8 240, AV.int .u8 240, AV.int .u8 240, AV.int .u8 240, AV.int .u8 240, AV.int .u8 241, AV.int .u8 241, AV.int .u8 241, AV.int .u8 241, AV.int .u8 241, AV.int .u8 241, AV.int .u8 241, AV.int .u8 241, AV.int .u8 241, AV.int .u8 241, AV.int .u8 241, AV.int .u8 241, AV.int .u8 241, AV.int .u8 241, AV.int .u8 241, AV.int .u8 241, AV.int .u8 241, AV.int .u8 241, AV.int .u8 241, AV.int .u8 241, AV.int .u8 241, AV.int .u8 241, AV.int .u8 241, AV.int .u8 241, AV.int .u8 241, AV.int .u8 241, AV.int .u8 241, AV.int .u8 241, AV.int .u8 241, AV.int .u8 241, AV.int .u8 241, AV.int .u8 241, AV.int .u8 241, AV.int .u8 241, AV.int .u8 241, AV.int .u8 241, AV.int .u8 241, AV.int .u8 241, AV.int .u8 241, AV.int .u8 241, AV.int .u8 241, AV.int .u8 241, AV.int .u8 241, AV.int .u8 241, AV.int .u8 241, AV.int .u8 241, AV.int .u8 241, AV.int .u8 241, AV.int .u8 241, AV.int .u8 241, AV.int .u8 241, AV.int .u8 241, AV.int .u8 241, AV.int .u8 241, AV.int .u8 241, AV.int .u8 241, AV.int .u8 241, AV.int .u8 241, AV.int .u8 241, AV.int .u8 241, AV.int .u8 241, AV.int .u8 241, AV.int .u8 241, AV.int .u8 241, AV.int .u8 241, AV.int .u8 241, AV.int .u8 2, AV.int .u8 2, AV.int .u8 2, AV.int .u8 2, AV.int .u8 2, AV.int .u8 2, AV.int .u8 2, AV.int .u8 2, AV.int .u8 2, AV.int .u8 2, AV.int .u8 2, AV.int .u8 2, AV.int .u8 2, AV.int .u8 2, AV.int .u8 2, AV.int .u8 2, AV.int .u8 2, AV.int .u8 2, AV.int .u8 2, AV.int .u8 2, AV.int .u8 2, AV.int .u8 2, AV.int .u8 2, AV.int .u8 2, AV.int .u8 2, AV.int .u8 2, AV.int .u8 2, AV.int .u8 2, AV.int .u8 2, AV.int .u8 2, AV.int .u8 19, AV.int .u8 3, AV.int .u8 3, AV.int .u8 3, AV.int .u8 3, AV.int .u8 3, AV.int .u8 3, AV.int .u8 3, AV.int .u8 3, AV.int .u8 3, AV.int .u8 3, AV.int .u8 3, AV.int .u8 3, AV.int .u8 35, AV.int .u8 3, AV.int .u8 3, AV.int .u8 52, AV.int .u8 4, AV.int .u8 4, AV.int .u8 4, AV.int .u8 68, AV.int .u8 241, AV.int .u8 241, AV.int .u8 241, AV.int .u8 241, AV.int .u8 241, AV.int .u8 241, AV.int .u8 241, AV.int .u8 241, AV.int .u8 241, AV.int .u8 241, AV.int .u8 241]
theorem F10 (e0 : Int) (st : St) {r : AOut × St} (h : (outL false (st.length) (AOut.ret (AV.int .i64 e0)) st) = some r) : cw 10 [AV.int .i64 e0] st = some r := callW_of (Eq.trans (by kernel_rfl) h)
theorem F30 (st : St) {r : AOut × St} (h : ((cellsV 2 (AV.agg [AV.str [UInt8.ofNat 124, UInt8.ofNat 124], AV.int .i64 30])).bind fun cs => (cellsV 2 (AV.agg [AV.str [UInt8.ofNat 38, UInt8.ofNat 38], AV.int .i64 29])).bind fun cs_1 => (cellsV 2 (AV.agg [AV.str [UInt8.ofNat 61, UInt8.ofNat 61], AV.int .i64 27])).bind fun cs_2 => (cellsV 2 (AV.agg [AV.str [UInt8.ofNat 33, UInt8.ofNat 61], AV.int .i64 28])).bind fun cs_3 => (cellsV 2 (AV.agg [AV.str [UInt8.ofNat 60], AV.int .i64 23])).bind fun cs_4 => (cellsV 2 (AV.agg [AV.str [UInt8.ofNat 60, UInt8.ofNat 61], AV.int .i64 24])).bind fun cs_5 => (cellsV 2 (AV.agg [AV.str [UInt8.ofNat 62], AV.int .i64 25])).bind fun cs_6 => (cellsV 2 (AV.agg [AV.str [UInt8.ofNat 62, UInt8.ofNat 61], AV.int .i64 26])).bind fun cs_7 => (cellsV 2 (AV.agg [AV.str [UInt8.ofNat 124], AV.int .i64 22])).bind fun cs_8 => (cellsV 2 (AV.agg [AV.str [UInt8.ofNat 94], AV.int .i64 21])).bind fun cs_9 => (cellsV 2 (AV.agg [AV.str [UInt8.ofNat 38], AV.int .i64 20])).bind fun cs_10 => (cellsV 2 (AV.agg [AV.str [UInt8.ofNat 60, UInt8.ofNat 60], AV.int .i64 18])).bind fun cs_11 => (cellsV 2 (AV.agg [AV.str [UInt8.ofNat 62, UInt8.ofNat 62], AV.int .i64 19])).bind fun cs_12 => (cellsV 2 (AV.agg [AV.str [UInt8.ofNat 126], AV.int .i64 17])).bind fun cs_13 => (cellsV 2 (AV.agg [AV.str [UInt8.ofNat 43], AV.int .i64 15])).bind fun cs_14 => (cellsV 2 (AV.agg [AV.str [UInt8.ofNat 45], AV.int .i64 16])).bind fun cs_15 => (cellsV 2 (AV.agg [AV.str [UInt8.ofNat 42], AV.int .i64 12])).bind fun cs_16 => (cellsV 2 (AV.agg [AV.str [UInt8.ofNat 47], AV.int .i64 13])).bind fun cs_17 => (cellsV 2 (AV.agg [AV.str [UInt8.ofNat 37], AV.int .i64 14])).bind fun cs_18 => outL false (st.length) (AOut.ret (AV.sl 1 [[AV.sl 2 [List.map AV.strip cs] 0 1 Tok.no], [AV.sl 2 [List.map AV.strip cs_1] 0 1 Tok.no], [AV.sl 2 [List.map AV.strip cs_2, List.map AV.strip cs_3] 0 2 Tok.no], [AV.sl 2 [List.map AV.strip cs_4, List.map AV.strip cs_5, List.map AV.strip cs_6, List.map AV.strip cs_7] 0 4 Tok.no], [AV.sl 2 [List.map AV.strip cs_8] 0 1 Tok.no], [AV.sl 2 [List.map AV.strip cs_9] 0 1 Tok.no], [AV.sl 2 [List.map AV.strip cs_10] 0 1 Tok.no], [AV.sl 2 [List.map AV.strip cs_11, List.map AV.strip cs_12] 0 2 Tok.no], [AV.sl 2 [List.map AV.strip cs_13] 0 1 Tok.no], [AV.sl 2 [List.map AV.strip cs_14, List.map AV.strip cs_15] 0 2 Tok.no], [AV.sl 2 [List.map AV.strip cs_16, List.map AV.strip cs_17, List.map AV.strip cs_18] 0 3 Tok.no]] 0 11 Tok.exact)) st) = some r) : cw 30 [] st = some r := callW_of (Eq.trans (by kernel_rfl) h)
theorem F56 (st : St) {r : AOut × St} (h : (callB (cw 44 [AV.str [UInt8.ofNat 124, UInt8.ofNat 124, UInt8.ofNat 32, UInt8.ofNat 38, UInt8.ofNat 38, UInt8.ofNat 32, UInt8.ofNat 61, UInt8.ofNat 61, UInt8.ofNat 32, UInt8.ofNat 33, UInt8.ofNat 61, UInt8.ofNat 32, UInt8.ofNat 60, UInt8.ofNat 61, UInt8.ofNat 32, UInt8.ofNat 62, UInt8.ofNat 61, UInt8.ofNat 32, UInt8.ofNat 60, UInt8.ofNat 60, UInt8.ofNat 32, UInt8.ofNat 62, UInt8.ofNat 62, UInt8.ofNat 32, UInt8.ofNat 63, UInt8.ofNat 32, UInt8.ofNat 58, UInt8.ofNat 32, UInt8.ofNat 60, UInt8.ofNat 32, UInt8.ofNat 62, UInt8.ofNat 32, UInt8.ofNat 124, UInt8.ofNat 32, UInt8.ofNat 94, UInt8.ofNat 32, UInt8.ofNat 38, UInt8.ofNat 32, UInt8.ofNat 126, UInt8.ofNat 32, UInt8.ofNat 43, UInt8.ofNat 32, UInt8.ofNat 45, UInt8.ofNat 32, UInt8.ofNat 42, UInt8.ofNat 32, UInt8.ofNat 47, UInt8.ofNat 32, UInt8.ofNat 37, UInt8.ofNat 32, UInt8.ofNat 33, UInt8.ofNat 32, UInt8.ofNat 46, UInt8.ofNat 32, UInt8.ofNat 91, UInt8.ofNat 32, UInt8.ofNat 93, UInt8.ofNat 32, UInt8.ofNat 40, UInt8.ofNat 32, UInt8.ofNat 41]] st) (fun v st_1 => bind2 (freezeA st_1 v) fun v st_2 => outL false (st.length) (AOut.ret v) st_2) fun v st_1 => outL false (st.length) (AOut.pan v) st_1) = some r) : cw 56 [] st = some r := callW_of (Eq.trans (by kernel_rfl) h)
theorem F25 (st : St) {r : AOut × St} (h : (callB (cw 44 [AV.str [UInt8.ofNat 108, UInt8.ofNat 101, UInt8.ofNat 110, UInt8.ofNat 32, UInt8.ofNat 115, UInt8.ofNat 116, UInt8.ofNat 114, UInt8.ofNat 32, UInt8.ofNat 105, UInt8.ofNat 56, UInt8.ofNat 32, UInt8.ofNat 117, UInt8.ofNat 56, UInt8.ofNat 32, UInt8.ofNat 105, UInt8.ofNat 49, UInt8.ofNat 54, UInt8.ofNat 32, UInt8.ofNat 117, UInt8.ofNat 49, UInt8.ofNat 54, UInt8.ofNat 32, UInt8.ofNat 105, UInt8.ofNat 51, UInt8.ofNat 50, UInt8.ofNat 32, UInt8.ofNat 117, UInt8.ofNat 51, UInt8.ofNat 50]] st) (fun v st_1 => bind2 (freezeA st_1 v) fun v st_2 => outL false (st.length) (AOut.ret v) st_2) fun v st_1 => outL false (st.length) (AOut.pan v) st_1) = some r) : cw 25 [] st = some r := callW_of (Eq.trans (by kernel_rfl) h)
theorem F21 (r0 : AV) (st : St) {r : AOut × St} (h : ((nilCheckA r0).bind fun v => (ptrAdd 3 v).bind fun v => (ptrAdd 3 v).bind fun v => (readA st v 1 false).bind fun v => (intV IntKind.i64 v).bind fun n => callB (cw 40 [AV.int .i64 1000, AV.int .i64 n] st) (fun v st_1 => outL false (st.length) (AOut.ret (AV.tup [])) st_1) fun v st_1 => outL false (st.length) (AOut.pan v) st_1) = some r) : cw 21 [r0] st = some r := callW_of (Eq.trans (by kernel_rfl) h)
theorem F40 (code0 : Int) (at1 : Int) (st : St) {r : AOut × St} (h : (outL false (st.length) (AOut.pan (AV.iface 53 (AV.agg [AV.int .i64 code0, AV.int .i64 at1]))) st) = some r) : cw 40 [AV.int .i64 code0, AV.int .i64 at1] st = some r := callW_of (Eq.trans (by kernel_rfl) h)
theorem F42 (r0 : AV) (s1 : List UInt8) (st : St) {r : AOut × St} (h : ((nilCheckA r0).bind fun v => (ptrAdd 3 v).bind fun v => (ptrAdd 0 v).bind fun v => (readA st v 1 false).bind fun v => (intV IntKind.i64 v).bind fun n => bif n == 4 then (nilCheckA r0).bind fun v => (ptrAdd 3 v).bind fun v => (ptrAdd 1 v).bind fun v => (readA st v 1 false).bind fun v => (strV v).bind fun s => (strA BinOp.eql s s1).bind fun v => (boolV v).bind fun b => outL false (st.length) (AOut.ret (AV.bool b)) st else outL false (st.length) (AOut.ret (AV.bool false)) st) = some r) : cw 42 [r0, AV.str s1] st = some r := callW_of (Eq.trans (by kernel_rfl) h)
end Go.Abs
namespace Go.Abs
open Go Go.Proofs
set_option maxRecDepth 100000
abbrev p16_0 : List Dir := [.sr, .sr, .sl, .sr, .bk]
abbrev p16_1 (n3 : Nat) : List Dir := [.sr, .sr, .sl, .sr, .bk, .lp n3, .sr, .sr, .sl, .bk, .sr, .sr, .bk]
theorem F16 (w0 : AV) (e1 : AV) (least2 : Int) (st : St) {r : AOut × St} (h : (callB (cw 30 [] st) (fun v st_1 => (lenSl v).bind fun v_1 => (intV IntKind.i64 v_1).bind fun n => aw 16 (st.length) p16_0 { env := [(0, w0), (1, e1), (2, AV.int .i64 least2), (6, AV.int .i64 13), (7, AV.str []), (12, v), (13, AV.int .i64 n), (14, AV.int .i64 0)], defers := [] } st_1) fun v st_1 => outL false (st.length) (AOut.pan v) st_1) = some r) : cw 16 [w0, e1, AV.int .i64 least2] st = some r := callW_of (Eq.trans (by kernel_rfl) h)
theorem F16_0 (w0 : AV) (e1 : AV) (least2 : Int) (level6 : Int) (op7 : List UInt8) (v12 : AV) (v13 : Int) (v14 : Int) (base : Nat) (st : St) {r : AOut × St} (h : (bif decide (v14 < v13) then (natA (AV.int .i64 v14)).bind fun j => (idxSl st 1 v12 j).bind fun v => (readA st v 1 false).bind fun v => (lenSl v).bind fun v_1 => (intV IntKind.i64 v_1).bind fun n => aw 16 base (p16_1 (st.length)) { env := [(0, w0), (1, e1), (2, AV.int .i64 least2), (6, AV.int .i64 level6), (7, AV.str op7), (8, AV.int .i64 v14), (12, v12), (13, AV.int .i64 v13), (14, AV.int .i64 v14), (19, v), (20, AV.int .i64 n), (21, AV.int .i64 0)], defers := [] } st
else (nilCheckA e1).bind fun v => (ptrAdd 0 v).bind fun v => (readA st v 1 false).bind fun v => (intV IntKind.i64 v).bind fun n => bif n == 31 then bif decide (0 < least2) then (nilCheckA w0).bind fun v => (ptrAdd 0 v).bind fun v => callB (cw 31 [v, AV.int .u8 40] st) (fun v st => (nilCheckA w0).bind fun v => (ptrAdd 0 v).bind fun v => (strA BinOp.neq op7 []).bind fun v_1 => (boolV v_1).bind fun b => bif b then (nilCheckA e1).bind fun v_2 => (ptrAdd 3 v_2).bind fun v_3 => (readA st v_3 1 false).bind fun v_4 => (idxSl st 4 v_4 0).bind fun v_5 => callB (cw 16 [w0, v_5, AV.int .i64 0] st) (fun v_6 st => (nilCheckA w0).bind fun v_7 => (ptrAdd 0 v_7).bind fun v_8 => (strA BinOp.add [UInt8.ofNat 32] op7).bind fun v_9 => (strV v_9).bind fun s => (strA BinOp.add s [UInt8.ofNat 32]).bind fun v_10 => (strV v_10).bind fun s => callB (cw 32 [v_8, AV.str s] st) (fun v_11 st => (nilCheckA e1).bind fun v_12 => (ptrAdd 3 v_12).bind fun v_13 => (readA st v_13 1 false).bind fun v_14 => (idxSl st 4 v_14 1).bind fun v_15 => callB (cw 16 [w0, v_15, AV.int .i64 1] st) (fun v_16 st => (leaveA Tryd.prog (callDA Tryd.prog trydhints (cw) (runW Tryd.prog trydhints)) Tryd.f16 [(0, w0), (1, e1), (6, AV.int .i64 0), (7, AV.str op7), (57, AV.bool true)] [(31, [v, AV.int .u8 41] ++ [])] AMode.ret st).bind fun o => outL false base o.fst o.snd) fun v_16 st => (leaveA Tryd.prog (callDA Tryd.prog trydhints (cw) (runW Tryd.prog trydhints)) Tryd.f16 [(0, w0), (1, e1), (6, AV.int .i64 0), (7, AV.str op7), (57, AV.bool true)] [(31, [v, AV.int .u8 41] ++ [])] (AMode.pan v_16) st).bind fun o => outL false base o.fst o.snd) fun v_11 st => (leaveA Tryd.prog (callDA Tryd.prog trydhints (cw) (runW Tryd.prog trydhints)) Tryd.f16 [(0, w0), (1, e1), (6, AV.int .i64 0), (7, AV.str op7), (57, AV.bool true)] [(31, [v, AV.int .u8 41] ++ [])] (AMode.pan v_11) st).bind fun o => outL false base o.fst o.snd) fun v_6 st => (leaveA Tryd.prog (callDA Tryd.prog trydhints (cw) (runW Tryd.prog trydhints)) Tryd.f16 [(0, w0), (1, e1), (6, AV.int .i64 0), (7, AV.str op7), (57, AV.bool true)] [(31, [v, AV.int .u8 41] ++ [])] (AMode.pan v_6) st).bind fun o => outL false base o.fst o.snd else (nilCheckA e1).bind fun v_2 => (ptrAdd 0 v_2).bind fun v_3 => (readA st v_3 1 false).bind fun v_4 => (intV IntKind.i64 v_4).bind fun n => bif n == 31 then (nilCheckA e1).bind fun v_5 => (ptrAdd 3 v_5).bind fun v_6 => (readA st v_6 1 false).bind fun v_7 => (idxSl st 4 v_7 0).bind fun v_8 => callB (cw 16 [w0, v_8, AV.int .i64 1] st) (fun v_9 st => (nilCheckA w0).bind fun v_10 => (ptrAdd 0 v_10).bind fun v_11 => callB (cw 32 [v_11, AV.str [UInt8.ofNat 32, UInt8.ofNat 63, UInt8.ofNat 32]] st) (fun v_12 st => (nilCheckA e1).bind fun v_13 => (ptrAdd 3 v_13).bind fun v_14 => (readA st v_14 1 false).bind fun v_15 => (idxSl st 4 v_15 1).bind fun v_16 => callB (cw 16 [w0, v_16, AV.int .i64 0] st) (fun v_17 st => (nilCheckA w0).bind fun v_18 => (ptrAdd 0 v_18).bind fun v_19 => callB (cw 32 [v_19, AV.str [UInt8.ofNat 32, UInt8.ofNat 58, UInt8.ofNat 32]] st) (fun v_20 st => (nilCheckA e1).bind fun v_21 => (ptrAdd 3 v_21).bind fun v_22 => (readA st v_22 1 false).bind fun v_23 => (idxSl st 4 v_23 2).bind fun v_24 => callB (cw 16 [w0, v_24, AV.int .i64 0] st) (fun v_25 st => (leaveA Tryd.prog (callDA Tryd.prog trydhints (cw) (runW Tryd.prog trydhints)) Tryd.f16 [(0, w0), (1, e1), (87, AV.int .i64 n), (88, AV.bool true)] [(31, [v, AV.int .u8 41] ++ [])] AMode.ret st).bind fun o => outL false base o.fst o.snd) fun v_25 st => (leaveA Tryd.prog (callDA Tryd.prog trydhints (cw) (runW Tryd.prog trydhints)) Tryd.f16 [(0, w0), (1, e1), (87, AV.int .i64 n), (88, AV.bool true)] [(31, [v, AV.int .u8 41] ++ [])] (AMode.pan v_25) st).bind fun o => outL false base o.fst o.snd) fun v_20 st => (leaveA Tryd.prog (callDA Tryd.prog trydhints (cw) (runW Tryd.prog trydhints)) Tryd.f16 [(0, w0), (1, e1), (87, AV.int .i64 n), (88, AV.bool true)] [(31, [v, AV.int .u8 41] ++ [])] (AMode.pan v_20) st).bind fun o => outL false base o.fst o.snd) fun v_17 st => (leaveA Tryd.prog (callDA Tryd.prog trydhints (cw) (runW Tryd.prog trydhints)) Tryd.f16 [(0, w0), (1, e1), (87, AV.int .i64 n), (88, AV.bool true)] [(31, [v, AV.int .u8 41] ++ [])] (AMode.pan v_17) st).bind fun o => outL false base o.fst o.snd) fun v_12 st => (leaveA Tryd.prog (callDA Tryd.prog trydhints (cw) (runW Tryd.prog trydhints)) Tryd.f16 [(0, w0), (1, e1), (87, AV.int .i64 n), (88, AV.bool true)] [(31, [v, AV.int .u8 41] ++ [])] (AMode.pan v_12) st).bind fun o => outL false base o.fst o.snd) fun v_9 st => (leaveA Tryd.prog (callDA Tryd.prog trydhints (cw) (runW Tryd.prog trydhints)) Tryd.f16 [(0, w0), (1, e1), (87, AV.int .i64 n), (88, AV.bool true)] [(31, [v, AV.int .u8 41] ++ [])] (AMode.pan v_9) st).bind fun o => outL false base o.fst o.snd else bif n == 10 then (nilCheckA w0).bind fun v_5 => (ptrAdd 0 v_5).bind fun v_6 => callB (cw 31 [v_6, AV.int .u8 45] st) (fun v_7 st => (nilCheckA e1).bind fun v_8 => (ptrAdd 3 v_8).bind fun v_9 => (readA st v_9 1 false).bind fun v_10 => (idxSl st 4 v_10 0).bind fun v_11 => callB (cw 16 [w0, v_11, AV.int .i64 12] st) (fun v_12 st => (leaveA Tryd.prog (callDA Tryd.prog trydhints (cw) (runW Tryd.prog trydhints)) Tryd.f16 [(0, w0), (1, e1), (87, AV.int .i64 n), (88, AV.bool false), (119, AV.bool true)] [(31, [v, AV.int .u8 41] ++ [])] AMode.ret st).bind fun o => outL false base o.fst o.snd) fun v_12 st => (leaveA Tryd.prog (callDA Tryd.prog trydhints (cw) (runW Tryd.prog trydhints)) Tryd.f16 [(0, w0), (1, e1), (87, AV.int .i64 n), (88, AV.bool false), (119, AV.bool true)] [(31, [v, AV.int .u8 41] ++ [])] (AMode.pan v_12) st).bind fun o => outL false base o.fst o.snd) fun v_7 st => (leaveA Tryd.prog (callDA Tryd.prog trydhints (cw) (runW Tryd.prog trydhints)) Tryd.f16 [(0, w0), (1, e1), (87, AV.int .i64 n), (88, AV.bool false), (119, AV.bool true)] [(31, [v, AV.int .u8 41] ++ [])] (AMode.pan v_7) st).bind fun o => outL false base o.fst o.snd else bif n == 11 then (nilCheckA w0).bind fun v_5 => (ptrAdd 0 v_5).bind fun v_6 => callB (cw 31 [v_6, AV.int .u8 33] st) (fun v_7 st => (nilCheckA e1).bind fun v_8 => (ptrAdd 3 v_8).bind fun v_9 => (readA st v_9 1 false).bind fun v_10 => (idxSl st 4 v_10 0).bind fun v_11 => callB (cw 16 [w0, v_11, AV.int .i64 12] st) (fun v_12 st => (leaveA Tryd.prog (callDA Tryd.prog trydhints (cw) (runW Tryd.prog trydhints)) Tryd.f16 [(0, w0), (1, e1), (87, AV.int .i64 n), (88, AV.bool false), (119, AV.bool false), (132, AV.bool true)] [(31, [v, AV.int .u8 41] ++ [])] AMode.ret st).bind fun o => outL false base o.fst o.snd) fun v_12 st => (leaveA Tryd.prog (callDA Tryd.prog trydhints (cw) (runW Tryd.prog trydhints)) Tryd.f16 [(0, w0), (1, e1), (87, AV.int .i64 n), (88, AV.bool false), (119, AV.bool false), (132, AV.bool true)] [(31, [v, AV.int .u8 41] ++ [])] (AMode.pan v_12) st).bind fun o => outL false base o.fst o.snd) fun v_7 st => (leaveA Tryd.prog (callDA Tryd.prog trydhints (cw) (runW Tryd.prog trydhints)) Tryd.f16 [(0, w0), (1, e1), (87, AV.int .i64 n), (88, AV.bool false), (119, AV.bool false), (132, AV.bool true)] [(31, [v, AV.int .u8 41] ++ [])] (AMode.pan v_7) st).bind fun o => outL false base o.fst o.snd else bif n == 7 then (nilCheckA e1).bind fun v_5 => (ptrAdd 3 v_5).bind fun v_6 => (readA st v_6 1 false).bind fun v_7 => (idxSl st 4 v_7 0).bind fun v_8 => callB (cw 16 [w0, v_8, AV.int .i64 13] st) (fun v_9 st => (nilCheckA w0).bind fun v_10 => (ptrAdd 0 v_10).bind fun v_11 => (nilCheckA e1).bind fun v_12 => (ptrAdd 2 v_12).bind fun v_13 => (readA st v_13 1 false).bind fun v_14 => (strV v_14).bind fun s => (strA BinOp.add [UInt8.ofNat 46] s).bind fun v_15 => (strV v_15).bind fun s => callB (cw 32 [v_11, AV.str s] st) (fun v_16 st => (leaveA Tryd.prog (callDA Tryd.prog trydhints (cw) (runW Tryd.prog trydhints)) Tryd.f16 [(0, w0), (1, e1), (87, AV.int .i64 n), (88, AV.bool false), (119, AV.bool false), (132, AV.bool false), (145, AV.bool true)] [(31, [v, AV.int .u8 41] ++ [])] AMode.ret st).bind fun o => outL false base o.fst o.snd) fun v_16 st => (leaveA Tryd.prog (callDA Tryd.prog trydhints (cw) (runW Tryd.prog trydhints)) Tryd.f16 (List.filter (fun p => !(some 154 == some p.fst || (some 155 == some p.fst || (some 156 == some p.fst || (some 157 == some p.fst || (some 158 == some p.fst || (some 159 == some p.fst || (some 160 == some p.fst || (some 161 == some p.fst || (some 162 == some p.fst || false)))))))))) [(0, w0), (1, e1), (87, AV.int .i64 n), (88, AV.bool false), (119, AV.bool false), (132, AV.bool false), (145, AV.bool true)]) [(31, [v, AV.int .u8 41] ++ [])] (AMode.pan v_16) st).bind fun o => outL false base o.fst o.snd) fun v_9 st => (leaveA Tryd.prog (callDA Tryd.prog trydhints (cw) (runW Tryd.prog trydhints)) Tryd.f16 [(0, w0), (1, e1), (87, AV.int .i64 n), (88, AV.bool false), (119, AV.bool false), (132, AV.bool false), (145, AV.bool true)] [(31, [v, AV.int .u8 41] ++ [])] (AMode.pan v_9) st).bind fun o => outL false base o.fst o.snd else bif n == 8 then (nilCheckA e1).bind fun v_5 => (ptrAdd 3 v_5).bind fun v_6 => (readA st v_6 1 false).bind fun v_7 => (idxSl st 4 v_7 0).bind fun v_8 => callB (cw 16 [w0, v_8, AV.int .i64 13] st) (fun v_9 st => (nilCheckA w0).bind fun v_10 => (ptrAdd 0 v_10).bind fun v_11 => callB (cw 31 [v_11, AV.int .u8 91] st) (fun v_12 st => (nilCheckA e1).bind fun v_13 => (ptrAdd 3 v_13).bind fun v_14 => (readA st v_14 1 false).bind fun v_15 => (idxSl st 4 v_15 1).bind fun v_16 => callB (cw 16 [w0, v_16, AV.int .i64 0] st) (fun v_17 st => (nilCheckA w0).bind fun v_18 => (ptrAdd 0 v_18).bind fun v_19 => callB (cw 31 [v_19, AV.int .u8 93] st) (fun v_20 st => (leaveA Tryd.prog (callDA Tryd.prog trydhints (cw) (runW Tryd.prog trydhints)) Tryd.f16 [(0, w0), (1, e1), (87, AV.int .i64 n), (88, AV.bool false), (119, AV.bool false), (132, AV.bool false), (145, AV.bool false), (163, AV.bool true)] [(31, [v, AV.int .u8 41] ++ [])] AMode.ret st).bind fun o => outL false base o.fst o.snd) fun v_20 st => (leaveA Tryd.prog (callDA Tryd.prog trydhints (cw) (runW Tryd.prog trydhints)) Tryd.f16 [(0, w0), (1, e1), (87, AV.int .i64 n), (88, AV.bool false), (119, AV.bool false), (132, AV.bool false), (145, AV.bool false), (163, AV.bool true)] [(31, [v, AV.int .u8 41] ++ [])] (AMode.pan v_20) st).bind fun o => outL false base o.fst o.snd) fun v_17 st => (leaveA Tryd.prog (callDA Tryd.prog trydhints (cw) (runW Tryd.prog trydhints)) Tryd.f16 [(0, w0), (1, e1), (87, AV.int .i64 n), (88, AV.bool false), (119, AV.bool false), (132, AV.bool false), (145, AV.bool false), (163, AV.bool true)] [(31, [v, AV.int .u8 41] ++ [])] (AMode.pan v_17) st).bind fun o => outL false base o.fst o.snd) fun v_12 st => (leaveA Tryd.prog (callDA Tryd.prog trydhints (cw) (runW Tryd.prog trydhints)) Tryd.f16 [(0, w0), (1, e1), (87, AV.int .i64 n), (88, AV.bool false), (119, AV.bool false), (132, AV.bool false), (145, AV.bool false), (163, AV.bool true)] [(31, [v, AV.int .u8 41] ++ [])] (AMode.pan v_12) st).bind fun o => outL false base o.fst o.snd) fun v_9 st => (leaveA Tryd.prog (callDA Tryd.prog trydhints (cw) (runW Tryd.prog trydhints)) Tryd.f16 [(0, w0), (1, e1), (87, AV.int .i64 n), (88, AV.bool false), (119, AV.bool false), (132, AV.bool false), (145, AV.bool false), (163, AV.bool true)] [(31, [v, AV.int .u8 41] ++ [])] (AMode.pan v_9) st).bind fun o => outL false base o.fst o.snd else bif n == 9 then (nilCheckA w0).bind fun v_5 => (ptrAdd 0 v_5).bind fun v_6 => callB (cw 25 [] st) (fun v_7 st_1 => (nilCheckA e1).bind fun v_8 => (ptrAdd 1 v_8).bind fun v_9 => (readA st_1 v_9 1 false).bind fun v_10 => (intV IntKind.i64 v_10).bind fun n_1 => (natA (AV.int .i64 (IntKind.i64.wrap (n_1 - 1)))).bind fun j => (idxSl st_1 1 v_7 j).bind fun v_11 => (readA st_1 v_11 1 false).bind fun v_12 => (strV v_12).bind fun s => (strA BinOp.add s [UInt8.ofNat 40]).bind fun v_13 => (strV v_13).bind fun s_1 => callB (cw 32 [v_6, AV.str s_1] st_1) (fun v_14 st_2 => if ((if isIp v_9 = true then true else (List.range.loop [st_2, st_1, st].length []).all fun s => if 0 ≤ s ∧ s ≤ 1 then
 match [st_2, st_1, st][[st_2, st_1, st].length - 1 - s]? with
 | some st =>
  match Option.map (fun v => (Res.val v, st)) (ldA Tryd.prog st 3 v_9) with
  | some (Res.val v', snd) => (AV.int .i64 n_1).beq v'
  | x => false
 | none => false else true) && true) = true then (nilCheckA e1).bind fun v_15 => (ptrAdd 3 v_15).bind fun v_16 => (readA st_2 v_16 1 false).bind fun v_17 => (idxSl st_2 4 v_17 0).bind fun v_18 => callB (cw 16 [w0, v_18, AV.int .i64 0] st_2) (fun v_19 st => (nilCheckA w0).bind fun v_20 => (ptrAdd 0 v_20).bind fun v_21 => callB (cw 31 [v_21, AV.int .u8 41] st) (fun v_22 st => (leaveA Tryd.prog (callDA Tryd.prog trydhints (cw) (runW Tryd.prog trydhints)) Tryd.f16 [(0, w0), (1, e1), (87, AV.int .i64 n), (88, AV.bool false), (119, AV.bool false), (132, AV.bool false), (145, AV.bool false), (163, AV.bool false), (187, AV.bool true)] [(31, [v, AV.int .u8 41] ++ [])] AMode.ret st).bind fun o => outL false base o.fst o.snd) fun v_22 st => (leaveA Tryd.prog (callDA Tryd.prog trydhints (cw) (runW Tryd.prog trydhints)) Tryd.f16 [(0, w0), (1, e1), (87, AV.int .i64 n), (88, AV.bool false), (119, AV.bool false), (132, AV.bool false), (145, AV.bool false), (163, AV.bool false), (187, AV.bool true)] [(31, [v, AV.int .u8 41] ++ [])] (AMode.pan v_22) st).bind fun o => outL false base o.fst o.snd) fun v_19 st => (leaveA Tryd.prog (callDA Tryd.prog trydhints (cw) (runW Tryd.prog trydhints)) Tryd.f16 [(0, w0), (1, e1), (87, AV.int .i64 n), (88, AV.bool false), (119, AV.bool false), (132, AV.bool false), (145, AV.bool false), (163, AV.bool false), (187, AV.bool true)] [(31, [v, AV.int .u8 41] ++ [])] (AMode.pan v_19) st).bind fun o => outL false base o.fst o.snd else none) fun v_14 st_2 => if ((if isIp v_9 = true then true else (List.range.loop [st_1, st].length []).all fun s => if 0 ≤ s ∧ s ≤ 1 then
 match [st_1, st][[st_1, st].length - 1 - s]? with
 | some st =>
  match Option.map (fun v => (Res.val v, st)) (ldA Tryd.prog st 3 v_9) with
  | some (Res.val v', snd) => (AV.int .i64 n_1).beq v'
  | x => false
 | none => false else true) && true) = true then none else none) fun v st => none else bif n == 4 then (nilCheckA w0).bind fun v_5 => (ptrAdd 0 v_5).bind fun v_6 => (nilCheckA e1).bind fun v_7 => (ptrAdd 1 v_7).bind fun v_8 => (readA st v_8 1 false).bind fun v_9 => (intV IntKind.i64 v_9).bind fun n_1 => callB (cw 33 [AV.int .i64 n_1] st) (fun v_10 st => (strV v_10).bind fun s => callB (cw 32 [v_6, AV.str s] st) (fun v_11 st => (leaveA Tryd.prog (callDA Tryd.prog trydhints (cw) (runW Tryd.prog trydhints)) Tryd.f16 [(0, w0), (1, e1), (87, AV.int .i64 n), (88, AV.bool false), (119, AV.bool false), (132, AV.bool false), (145, AV.bool false), (163, AV.bool false), (187, AV.bool false), (213, AV.bool true)] [(31, [v, AV.int .u8 41] ++ [])] AMode.ret st).bind fun o => outL false base o.fst o.snd) fun v_11 st => (leaveA Tryd.prog (callDA Tryd.prog trydhints (cw) (runW Tryd.prog trydhints)) Tryd.f16 (List.filter (fun p => !(some 215 == some p.fst || (some 216 == some p.fst || (some 217 == some p.fst || (some 218 == some p.fst || (some 219 == some p.fst || (some 220 == some p.fst || (some 221 == some p.fst || (some 222 == some p.fst || (some 223 == some p.fst || false)))))))))) [(0, w0), (1, e1), (87, AV.int .i64 n), (88, AV.bool false), (119, AV.bool false), (132, AV.bool false), (145, AV.bool false), (163, AV.bool false), (187, AV.bool false), (213, AV.bool true)]) [(31, [v, AV.int .u8 41] ++ [])] (AMode.pan v_11) st).bind fun o => outL false base o.fst o.snd) fun v_10 st => (leaveA Tryd.prog (callDA Tryd.prog trydhints (cw) (runW Tryd.prog trydhints)) Tryd.f16 (List.filter (fun p => !(some 215 == some p.fst || (some 216 == some p.fst || (some 217 == some p.fst || (some 218 == some p.fst || (some 219 == some p.fst || (some 220 == some p.fst || (some 221 == some p.fst || (some 222 == some p.fst || (some 223 == some p.fst || false)))))))))) [(0, w0), (1, e1), (87, AV.int .i64 n), (88, AV.bool false), (119, AV.bool false), (132, AV.bool false), (145, AV.bool false), (163, AV.bool false), (187, AV.bool false), (213, AV.bool true)]) [(31, [v, AV.int .u8 41] ++ [])] (AMode.pan v_10) st).bind fun o => outL false base o.fst o.snd else bif n == 5 then (nilCheckA e1).bind fun v_5 => (ptrAdd 2 v_5).bind fun v_6 => (readA st v_6 1 false).bind fun v_7 => (strV v_7).bind fun s => callB (cw 34 [w0, AV.str s] st) (fun v_8 st => (leaveA Tryd.prog (callDA Tryd.prog trydhints (cw) (runW Tryd.prog trydhints)) Tryd.f16 [(0, w0), (1, e1), (87, AV.int .i64 n), (88, AV.bool false), (119, AV.bool false), (132, AV.bool false), (145, AV.bool false), (163, AV.bool false), (187, AV.bool false), (213, AV.bool false), (224, AV.bool true)] [(31, [v, AV.int .u8 41] ++ [])] AMode.ret st).bind fun o => outL false base o.fst o.snd) fun v_8 st => (leaveA Tryd.prog (callDA Tryd.prog trydhints (cw) (runW Tryd.prog trydhints)) Tryd.f16 [(0, w0), (1, e1), (87, AV.int .i64 n), (88, AV.bool false), (119, AV.bool false), (132, AV.bool false), (145, AV.bool false), (163, AV.bool false), (187, AV.bool false), (213, AV.bool false), (224, AV.bool true)] [(31, [v, AV.int .u8 41] ++ [])] (AMode.pan v_8) st).bind fun o => outL false base o.fst o.snd else bif n == 6 then (nilCheckA w0).bind fun v_5 => (ptrAdd 0 v_5).bind fun v_6 => (nilCheckA e1).bind fun v_7 => (ptrAdd 2 v_7).bind fun v_8 => (readA st v_8 1 false).bind fun v_9 => (strV v_9).bind fun s => callB (cw 32 [v_6, AV.str s] st) (fun v_10 st => (leaveA Tryd.prog (callDA Tryd.prog trydhints (cw) (runW Tryd.prog trydhints)) Tryd.f16 [(0, w0), (1, e1), (87, AV.int .i64 n), (88, AV.bool false), (119, AV.bool false), (132, AV.bool false), (145, AV.bool false), (163, AV.bool false), (187, AV.bool false), (213, AV.bool false), (224, AV.bool false), (232, AV.bool true)] [(31, [v, AV.int .u8 41] ++ [])] AMode.ret st).bind fun o => outL false base o.fst o.snd) fun v_10 st => (leaveA Tryd.prog (callDA Tryd.prog trydhints (cw) (runW Tryd.prog trydhints)) Tryd.f16 (List.filter (fun p => !(some 234 == some p.fst || (some 235 == some p.fst || (some 236 == some p.fst || (some 237 == some p.fst || (some 238 == some p.fst || (some 239 == some p.fst || (some 240 == some p.fst || (some 241 == some p.fst || false))))))))) [(0, w0), (1, e1), (87, AV.int .i64 n), (88, AV.bool false), (119, AV.bool false), (132, AV.bool false), (145, AV.bool false), (163, AV.bool false), (187, AV.bool false), (213, AV.bool false), (224, AV.bool false), (232, AV.bool true)]) [(31, [v, AV.int .u8 41] ++ [])] (AMode.pan v_10) st).bind fun o => outL false base o.fst o.snd else bif n == 1 then (nilCheckA w0).bind fun v_5 => (ptrAdd 0 v_5).bind fun v_6 => callB (cw 32 [v_6, AV.str [UInt8.ofNat 110, UInt8.ofNat 117, UInt8.ofNat 108, UInt8.ofNat 108]] st) (fun v_7 st => (leaveA Tryd.prog (callDA Tryd.prog trydhints (cw) (runW Tryd.prog trydhints)) Tryd.f16 [(0, w0), (1, e1), (87, AV.int .i64 n), (88, AV.bool false), (119, AV.bool false), (132, AV.bool false), (145, AV.bool false), (163, AV.bool false), (187, AV.bool false), (213, AV.bool false), (224, AV.bool false), (232, AV.bool false), (242, AV.bool true)] [(31, [v, AV.int .u8 41] ++ [])] AMode.ret st).bind fun o => outL false base o.fst o.snd) fun v_7 st => (leaveA Tryd.prog (callDA Tryd.prog trydhints (cw) (runW Tryd.prog trydhints)) Tryd.f16 [(0, w0), (1, e1), (87, AV.int .i64 n), (88, AV.bool false), (119, AV.bool false), (132, AV.bool false), (145, AV.bool false), (163, AV.bool false), (187, AV.bool false), (213, AV.bool false), (224, AV.bool false), (232, AV.bool false), (242, AV.bool true)] [(31, [v, AV.int .u8 41] ++ [])] (AMode.pan v_7) st).bind fun o => outL false base o.fst o.snd else bif n == 2 then (nilCheckA w0).bind fun v_5 => (ptrAdd 0 v_5).bind fun v_6 => callB (cw 32 [v_6, AV.str [UInt8.ofNat 102, UInt8.ofNat 97, UInt8.ofNat 108, UInt8.ofNat 115, UInt8.ofNat 101]] st) (fun v_7 st => (leaveA Tryd.prog (callDA Tryd.prog trydhints (cw) (runW Tryd.prog trydhints)) Tryd.f16 [(0, w0), (1, e1), (87, AV.int .i64 n), (88, AV.bool false), (119, AV.bool false), (132, AV.bool false), (145, AV.bool false), (163, AV.bool false), (187, AV.bool false), (213, AV.bool false), (224, AV.bool false), (232, AV.bool false), (242, AV.bool false), (248, AV.bool true)] [(31, [v, AV.int .u8 41] ++ [])] AMode.ret st).bind fun o => outL false base o.fst o.snd) fun v_7 st => (leaveA Tryd.prog (callDA Tryd.prog trydhints (cw) (runW Tryd.prog trydhints)) Tryd.f16 [(0, w0), (1, e1), (87, AV.int .i64 n), (88, AV.bool false), (119, AV.bool false), (132, AV.bool false), (145, AV.bool false), (163, AV.bool false), (187, AV.bool false), (213, AV.bool false), (224, AV.bool false), (232, AV.bool false), (242, AV.bool false), (248, AV.bool true)] [(31, [v, AV.int .u8 41] ++ [])] (AMode.pan v_7) st).bind fun o => outL false base o.fst o.snd else bif n == 3 then (nilCheckA w0).bind fun v_5 => (ptrAdd 0 v_5).bind fun v_6 => callB (cw 32 [v_6, AV.str [UInt8.ofNat 116, UInt8.ofNat 114, UInt8.ofNat 117, UInt8.ofNat 101]] st) (fun v_7 st => (leaveA Tryd.prog (callDA Tryd.prog trydhints (cw) (runW Tryd.prog trydhints)) Tryd.f16 [(0, w0), (1, e1), (87, AV.int .i64 n), (88, AV.bool false), (119, AV.bool false), (132, AV.bool false), (145, AV.bool false), (163, AV.bool false), (187, AV.bool false), (213, AV.bool false), (224, AV.bool false), (232, AV.bool false), (242, AV.bool false), (248, AV.bool false), (254, AV.bool true)] [(31, [v, AV.int .u8 41] ++ [])] AMode.ret st).bind fun o => outL false base o.fst o.snd) fun v_7 st => (leaveA Tryd.prog (callDA Tryd.prog trydhints (cw) (runW Tryd.prog trydhints)) Tryd.f16 [(0, w0), (1, e1), (87, AV.int .i64 n), (88, AV.bool false), (119, AV.bool false), (132, AV.bool false), (145, AV.bool false), (163, AV.bool false), (187, AV.bool false), (213, AV.bool false), (224, AV.bool false), (232, AV.bool false), (242, AV.bool false), (248, AV.bool false), (254, AV.bool true)] [(31, [v, AV.int .u8 41] ++ [])] (AMode.pan v_7) st).bind fun o => outL false base o.fst o.snd else (leaveA Tryd.prog (callDA Tryd.prog trydhints (cw) (runW Tryd.prog trydhints)) Tryd.f16 [(0, w0), (1, e1), (87, AV.int .i64 n), (88, AV.bool false), (119, AV.bool false), (132, AV.bool false), (145, AV.bool false), (163, AV.bool false), (187, AV.bool false), (213, AV.bool false), (224, AV.bool false), (232, AV.bool false), (242, AV.bool false), (248, AV.bool false), (254, AV.bool false)] [(31, [v, AV.int .u8 41] ++ [])] AMode.ret st).bind fun o => outL false base o.fst o.snd) fun v st => outL false base (AOut.pan v) st else (strA BinOp.neq op7 []).bind fun v => (boolV v).bind fun b => bif b then (nilCheckA e1).bind fun v => (ptrAdd 3 v).bind fun v => (readA st v 1 false).bind fun v => (idxSl st 4 v 0).bind fun v => callB (cw 16 [w0, v, AV.int .i64 0] st) (fun v st => (nilCheckA w0).bind fun v => (ptrAdd 0 v).bind fun v => (strA BinOp.add [UInt8.ofNat 32] op7).bind fun v_1 => (strV v_1).bind fun s => (strA BinOp.add s [UInt8.ofNat 32]).bind fun v_2 => (strV v_2).bind fun s => callB (cw 32 [v, AV.str s] st) (fun v st => (nilCheckA e1).bind fun v => (ptrAdd 3 v).bind fun v => (readA st v 1 false).bind fun v => (idxSl st 4 v 1).bind fun v => callB (cw 16 [w0, v, AV.int .i64 1] st) (fun v st => outL false base (AOut.ret (AV.tup [])) st) fun v st => outL false base (AOut.pan v) st) fun v st => outL false base (AOut.pan v) st) fun v st => outL false base (AOut.pan v) st else (nilCheckA e1).bind fun v => (ptrAdd 0 v).bind fun v => (readA st v 1 false).bind fun v => (intV IntKind.i64 v).bind fun n => bif n == 31 then (nilCheckA e1).bind fun v => (ptrAdd 3 v).bind fun v => (readA st v 1 false).bind fun v => (idxSl st 4 v 0).bind fun v => callB (cw 16 [w0, v, AV.int .i64 1] st) (fun v st => (nilCheckA w0).bind fun v => (ptrAdd 0 v).bind fun v => callB (cw 32 [v, AV.str [UInt8.ofNat 32, UInt8.ofNat 63, UInt8.ofNat 32]] st) (fun v st => (nilCheckA e1).bind fun v => (ptrAdd 3 v).bind fun v => (readA st v 1 false).bind fun v => (idxSl st 4 v 1).bind fun v => callB (cw 16 [w0, v, AV.int .i64 0] st) (fun v st => (nilCheckA w0).bind fun v => (ptrAdd 0 v).bind fun v => callB (cw 32 [v, AV.str [UInt8.ofNat 32, UInt8.ofNat 58, UInt8.ofNat 32]] st) (fun v st => (nilCheckA e1).bind fun v => (ptrAdd 3 v).bind fun v => (readA st v 1 false).bind fun v => (idxSl st 4 v 2).bind fun v => callB (cw 16 [w0, v, AV.int .i64 0] st) (fun v st => outL false base (AOut.ret (AV.tup [])) st) fun v st => outL false base (AOut.pan v) st) fun v st => outL false base (AOut.pan v) st) fun v st => outL false base (AOut.pan v) st) fun v st => outL false base (AOut.pan v) st) fun v st => outL false base (AOut.pan v) st else bif n == 10 then (nilCheckA w0).bind fun v => (ptrAdd 0 v).bind fun v => callB (cw 31 [v, AV.int .u8 45] st) (fun v st => (nilCheckA e1).bind fun v => (ptrAdd 3 v).bind fun v => (readA st v 1 false).bind fun v => (idxSl st 4 v 0).bind fun v => callB (cw 16 [w0, v, AV.int .i64 12] st) (fun v st => outL false base (AOut.ret (AV.tup [])) st) fun v st => outL false base (AOut.pan v) st) fun v st => outL false base (AOut.pan v) st else bif n == 11 then (nilCheckA w0).bind fun v => (ptrAdd 0 v).bind fun v => callB (cw 31 [v, AV.int .u8 33] st) (fun v st => (nilCheckA e1).bind fun v => (ptrAdd 3 v).bind fun v => (readA st v 1 false).bind fun v => (idxSl st 4 v 0).bind fun v => callB (cw 16 [w0, v, AV.int .i64 12] st) (fun v st => outL false base (AOut.ret (AV.tup [])) st) fun v st => outL false base (AOut.pan v) st) fun v st => outL false base (AOut.pan v) st else bif n == 7 then (nilCheckA e1).bind fun v => (ptrAdd 3 v).bind fun v => (readA st v 1 false).bind fun v => (idxSl st 4 v 0).bind fun v => callB (cw 16 [w0, v, AV.int .i64 13] st) (fun v st => (nilCheckA w0).bind fun v => (ptrAdd 0 v).bind fun v => (nilCheckA e1).bind fun v_1 => (ptrAdd 2 v_1).bind fun v_2 => (readA st v_2 1 false).bind fun v_3 => (strV v_3).bind fun s => (strA BinOp.add [UInt8.ofNat 46] s).bind fun v_4 => (strV v_4).bind fun s => callB (cw 32 [v, AV.str s] st) (fun v st => outL false base (AOut.ret (AV.tup [])) st) fun v st => outL false base (AOut.pan v) st) fun v st => outL false base (AOut.pan v) st else bif n == 8 then (nilCheckA e1).bind fun v => (ptrAdd 3 v).bind fun v => (readA st v 1 false).bind fun v => (idxSl st 4 v 0).bind fun v => callB (cw 16 [w0, v, AV.int .i64 13] st) (fun v st => (nilCheckA w0).bind fun v => (ptrAdd 0 v).bind fun v => callB (cw 31 [v, AV.int .u8 91] st) (fun v st => (nilCheckA e1).bind fun v => (ptrAdd 3 v).bind fun v => (readA st v 1 false).bind fun v => (idxSl st 4 v 1).bind fun v => callB (cw 16 [w0, v, AV.int .i64 0] st) (fun v st => (nilCheckA w0).bind fun v => (ptrAdd 0 v).bind fun v => callB (cw 31 [v, AV.int .u8 93] st) (fun v st => outL false base (AOut.ret (AV.tup [])) st) fun v st => outL false base (AOut.pan v) st) fun v st => outL false base (AOut.pan v) st) fun v st => outL false base (AOut.pan v) st) fun v st => outL false base (AOut.pan v) st else bif n == 9 then (nilCheckA w0).bind fun v => (ptrAdd 0 v).bind fun v_1 => callB (cw 25 [] st) (fun v_2 st_1 => (nilCheckA e1).bind fun v_3 => (ptrAdd 1 v_3).bind fun v_4 => (readA st_1 v_4 1 false).bind fun v_5 => (intV IntKind.i64 v_5).bind fun n_1 => (natA (AV.int .i64 (IntKind.i64.wrap (n_1 - 1)))).bind fun j => (idxSl st_1 1 v_2 j).bind fun v_6 => (readA st_1 v_6 1 false).bind fun v_7 => (strV v_7).bind fun s => (strA BinOp.add s [UInt8.ofNat 40]).bind fun v_8 => (strV v_8).bind fun s_1 => callB (cw 32 [v_1, AV.str s_1] st_1) (fun v_9 st_2 => if ((if isIp v_4 = true then true else (List.range.loop [st_2, st_1, st].length []).all fun s => if 0 ≤ s ∧ s ≤ 1 then
 match [st_2, st_1, st][[st_2, st_1, st].length - 1 - s]? with
 | some st =>
  match Option.map (fun v => (Res.val v, st)) (ldA Tryd.prog st 3 v_4) with
  | some (Res.val v', snd) => (AV.int .i64 n_1).beq v'
  | x => false
 | none => false else true) && true) = true then (nilCheckA e1).bind fun v => (ptrAdd 3 v).bind fun v => (readA st_2 v 1 false).bind fun v => (idxSl st_2 4 v 0).bind fun v => callB (cw 16 [w0, v, AV.int .i64 0] st_2) (fun v st => (nilCheckA w0).bind fun v => (ptrAdd 0 v).bind fun v => callB (cw 31 [v, AV.int .u8 41] st) (fun v st => outL false base (AOut.ret (AV.tup [])) st) fun v st => outL false base (AOut.pan v) st) fun v st => outL false base (AOut.pan v) st else none) fun v_9 st_2 => if ((if isIp v_4 = true then true else (List.range.loop [st_1, st].length []).all fun s => if 0 ≤ s ∧ s ≤ 1 then
 match [st_1, st][[st_1, st].length - 1 - s]? with
 | some st =>
  match Option.map (fun v => (Res.val v, st)) (ldA Tryd.prog st 3 v_4) with
  | some (Res.val v', snd) => (AV.int .i64 n_1).beq v'
  | x => false
 | none => false else true) && true) = true then none else none) fun v st => none else bif n == 4 then (nilCheckA w0).bind fun v => (ptrAdd 0 v).bind fun v => (nilCheckA e1).bind fun v_1 => (ptrAdd 1 v_1).bind fun v_2 => (readA st v_2 1 false).bind fun v_3 => (intV IntKind.i64 v_3).bind fun n => callB (cw 33 [AV.int .i64 n] st) (fun v_4 st => (strV v_4).bind fun s => callB (cw 32 [v, AV.str s] st) (fun v st => outL false base (AOut.ret (AV.tup [])) st) fun v st => outL false base (AOut.pan v) st) fun v st => outL false base (AOut.pan v) st else bif n == 5 then (nilCheckA e1).bind fun v => (ptrAdd 2 v).bind fun v => (readA st v 1 false).bind fun v => (strV v).bind fun s => callB (cw 34 [w0, AV.str s] st) (fun v st => outL false base (AOut.ret (AV.tup [])) st) fun v st => outL false base (AOut.pan v) st else bif n == 6 then (nilCheckA w0).bind fun v => (ptrAdd 0 v).bind fun v => (nilCheckA e1).bind fun v_1 => (ptrAdd 2 v_1).bind fun v_2 => (readA st v_2 1 false).bind fun v_3 => (strV v_3).bind fun s => callB (cw 32 [v, AV.str s] st) (fun v st => outL false base (AOut.ret (AV.tup [])) st) fun v st => outL false base (AOut.pan v) st else bif n == 1 then (nilCheckA w0).bind fun v => (ptrAdd 0 v).bind fun v => callB (cw 32 [v, AV.str [UInt8.ofNat 110, UInt8.ofNat 117, UInt8.ofNat 108, UInt8.ofNat 108]] st) (fun v st => outL false base (AOut.ret (AV.tup [])) st) fun v st => outL false base (AOut.pan v) st else bif n == 2 then (nilCheckA w0).bind fun v => (ptrAdd 0 v).bind fun v => callB (cw 32 [v, AV.str [UInt8.ofNat 102, UInt8.ofNat 97, UInt8.ofNat 108, UInt8.ofNat 115, UInt8.ofNat 101]] st) (fun v st => outL false base (AOut.ret (AV.tup [])) st) fun v st => outL false base (AOut.pan v) st else bif n == 3 then (nilCheckA w0).bind fun v => (ptrAdd 0 v).bind fun v => callB (cw 32 [v, AV.str [UInt8.ofNat 116, UInt8.ofNat 114, UInt8.ofNat 117, UInt8.ofNat 101]] st) (fun v st => outL false base (AOut.ret (AV.tup [])) st) fun v st => outL false base (AOut.pan v) st else outL false base (AOut.ret (AV.tup [])) st else bif n == 10 then bif decide (12 < least2) then (nilCheckA w0).bind fun v => (ptrAdd 0 v).bind fun v => callB (cw 31 [v, AV.int .u8 40] st) (fun v st => (nilCheckA w0).bind fun v => (ptrAdd 0 v).bind fun v => (strA BinOp.neq op7 []).bind fun v_1 => (boolV v_1).bind fun b => bif b then (nilCheckA e1).bind fun v_2 => (ptrAdd 3 v_2).bind fun v_3 => (readA st v_3 1 false).bind fun v_4 => (idxSl st 4 v_4 0).bind fun v_5 => callB (cw 16 [w0, v_5, AV.int .i64 12] st) (fun v_6 st => (nilCheckA w0).bind fun v_7 => (ptrAdd 0 v_7).bind fun v_8 => (strA BinOp.add [UInt8.ofNat 32] op7).bind fun v_9 => (strV v_9).bind fun s => (strA BinOp.add s [UInt8.ofNat 32]).bind fun v_10 => (strV v_10).bind fun s => callB (cw 32 [v_8, AV.str s] st) (fun v_11 st => (nilCheckA e1).bind fun v_12 => (ptrAdd 3 v_12).bind fun v_13 => (readA st v_13 1 false).bind fun v_14 => (idxSl st 4 v_14 1).bind fun v_15 => callB (cw 16 [w0, v_15, AV.int .i64 13] st) (fun v_16 st => (leaveA Tryd.prog (callDA Tryd.prog trydhints (cw) (runW Tryd.prog trydhints)) Tryd.f16 [(0, w0), (1, e1), (6, AV.int .i64 12), (7, AV.str op7), (57, AV.bool true)] [(31, [v, AV.int .u8 41] ++ [])] AMode.ret st).bind fun o => outL false base o.fst o.snd) fun v_16 st => (leaveA Tryd.prog (callDA Tryd.prog trydhints (cw) (runW Tryd.prog trydhints)) Tryd.f16 [(0, w0), (1, e1), (6, AV.int .i64 12), (7, AV.str op7), (57, AV.bool true)] [(31, [v, AV.int .u8 41] ++ [])] (AMode.pan v_16) st).bind fun o => outL false base o.fst o.snd) fun v_11 st => (leaveA Tryd.prog (callDA Tryd.prog trydhints (cw) (runW Tryd.prog trydhints)) Tryd.f16 [(0, w0), (1, e1), (6, AV.int .i64 12), (7, AV.str op7), (57, AV.bool true)] [(31, [v, AV.int .u8 41] ++ [])] (AMode.pan v_11) st).bind fun o => outL false base o.fst o.snd) fun v_6 st => (leaveA Tryd.prog (callDA Tryd.prog trydhints (cw) (runW Tryd.prog trydhints)) Tryd.f16 [(0, w0), (1, e1), (6, AV.int .i64 12), (7, AV.str op7), (57, AV.bool true)] [(31, [v, AV.int .u8 41] ++ [])] (AMode.pan v_6) st).bind fun o => outL false base o.fst o.snd else (nilCheckA e1).bind fun v_2 => (ptrAdd 0 v_2).bind fun v_3 => (readA st v_3 1 false).bind fun v_4 => (intV IntKind.i64 v_4).bind fun n => bif n == 31 then (nilCheckA e1).bind fun v_5 => (ptrAdd 3 v_5).bind fun v_6 => (readA st v_6 1 false).bind fun v_7 => (idxSl st 4 v_7 0).bind fun v_8 => callB (cw 16 [w0, v_8, AV.int .i64 1] st) (fun v_9 st => (nilCheckA w0).bind fun v_10 => (ptrAdd 0 v_10).bind fun v_11 => callB (cw 32 [v_11, AV.str [UInt8.ofNat 32, UInt8.ofNat 63, UInt8.ofNat 32]] st) (fun v_12 st => (nilCheckA e1).bind fun v_13 => (ptrAdd 3 v_13).bind fun v_14 => (readA st v_14 1 false).bind fun v_15 => (idxSl st 4 v_15 1).bind fun v_16 => callB (cw 16 [w0, v_16, AV.int .i64 0] st) (fun v_17 st => (nilCheckA w0).bind fun v_18 => (ptrAdd 0 v_18).bind fun v_19 => callB (cw 32 [v_19, AV.str [UInt8.ofNat 32, UInt8.ofNat 58, UInt8.ofNat 32]] st) (fun v_20 st => (nilCheckA e1).bind fun v_21 => (ptrAdd 3 v_21).bind fun v_22 => (readA st v_22 1 false).bind fun v_23 => (idxSl st 4 v_23 2).bind fun v_24 => callB (cw 16 [w0, v_24, AV.int .i64 0] st) (fun v_25 st => (leaveA Tryd.prog (callDA Tryd.prog trydhints (cw) (runW Tryd.prog trydhints)) Tryd.f16 [(0, w0), (1, e1), (87, AV.int .i64 n), (88, AV.bool true)] [(31, [v, AV.int .u8 41] ++ [])] AMode.ret st).bind fun o => outL false base o.fst o.snd) fun v_25 st => (leaveA Tryd.prog (callDA Tryd.prog trydhints (cw) (runW Tryd.prog trydhints)) Tryd.f16 [(0, w0), (1, e1), (87, AV.int .i64 n), (88, AV.bool true)] [(31, [v, AV.int .u8 41] ++ [])] (AMode.pan v_25) st).bind fun o => outL false base o.fst o.snd) fun v_20 st => (leaveA Tryd.prog (callDA Tryd.prog trydhints (cw) (runW Tryd.prog trydhints)) Tryd.f16 [(0, w0), (1, e1), (87, AV.int .i64 n), (88, AV.bool true)] [(31, [v, AV.int .u8 41] ++ [])] (AMode.pan v_20) st).bind fun o => outL false base o.fst o.snd) fun v_17 st => (leaveA Tryd.prog (callDA Tryd.prog trydhints (cw) (runW Tryd.prog trydhints)) Tryd.f16 [(0, w0), (1, e1), (87, AV.int .i64 n), (88, AV.bool true)] [(31, [v, AV.int .u8 41] ++ [])] (AMode.pan v_17) st).bind fun o => outL false base o.fst o.snd) fun v_12 st => (leaveA Tryd.prog (callDA Tryd.prog trydhints (cw) (runW Tryd.prog trydhints)) Tryd.f16 [(0, w0), (1, e1), (87, AV.int .i64 n), (88, AV.bool true)] [(31, [v, AV.int .u8 41] ++ [])] (AMode.pan v_12) st).bind fun o => outL false base o.fst o.snd) fun v_9 st => (leaveA Tryd.prog (callDA Tryd.prog trydhints (cw) (runW Tryd.prog trydhints)) Tryd.f16 [(0, w0), (1, e1), (87, AV.int .i64 n), (88, AV.bool true)] [(31, [v, AV.int .u8 41] ++ [])] (AMode.pan v_9) st).bind fun o => outL false base o.fst o.snd else bif n == 10 then (nilCheckA w0).bind fun v_5 => (ptrAdd 0 v_5).bind fun v_6 => callB (cw 31 [v_6, AV.int .u8 45] st) (fun v_7 st => (nilCheckA e1).bind fun v_8 => (ptrAdd 3 v_8).bind fun v_9 => (readA st v_9 1 false).bind fun v_10 => (idxSl st 4 v_10 0).bind fun v_11 => callB (cw 16 [w0, v_11, AV.int .i64 12] st) (fun v_12 st => (leaveA Tryd.prog (callDA Tryd.prog trydhints (cw) (runW Tryd.prog trydhints)) Tryd.f16 [(0, w0), (1, e1), (87, AV.int .i64 n), (88, AV.bool false), (119, AV.bool true)] [(31, [v, AV.int .u8 41] ++ [])] AMode.ret st).bind fun o => outL false base o.fst o.snd) fun v_12 st => (leaveA Tryd.prog (callDA Tryd.prog trydhints (cw) (runW Tryd.prog trydhints)) Tryd.f16 [(0, w0), (1, e1), (87, AV.int .i64 n), (88, AV.bool false), (119, AV.bool true)] [(31, [v, AV.int .u8 41] ++ [])] (AMode.pan v_12) st).bind fun o => outL false base o.fst o.snd) fun v_7 st => (leaveA Tryd.prog (callDA Tryd.prog trydhints (cw) (runW Tryd.prog trydhints)) Tryd.f16 [(0, w0), (1, e1), (87, AV.int .i64 n), (88, AV.bool false), (119, AV.bool true)] [(31, [v, AV.int .u8 41] ++ [])] (AMode.pan v_7) st).bind fun o => outL false base o.fst o.snd else bif n == 11 then (nilCheckA w0).bind fun v_5 => (ptrAdd 0 v_5).bind fun v_6 => callB (cw 31 [v_6, AV.int .u8 33] st) (fun v_7 st => (nilCheckA e1).bind fun v_8 => (ptrAdd 3 v_8).bind fun v_9 => (readA st v_9 1 false).bind fun v_10 => (idxSl st 4 v_10 0).bind fun v_11 => callB (cw 16 [w0, v_11, AV.int .i64 12] st) (fun v_12 st => (leaveA Tryd.prog (callDA Tryd.prog trydhints (cw) (runW Tryd.prog trydhints)) Tryd.f16 [(0, w0), (1, e1), (87, AV.int .i64 n), (88, AV.bool false), (119, AV.bool false), (132, AV.bool true)] [(31, [v, AV.int .u8 41] ++ [])] AMode.ret st).bind fun o => outL false base o.fst o.snd) fun v_12 st => (leaveA Tryd.prog (callDA Tryd.prog trydhints (cw) (runW Tryd.prog trydhints)) Tryd.f16 [(0, w0), (1, e1), (87, AV.int .i64 n), (88, AV.bool false), (119, AV.bool false), (132, AV.bool true)] [(31, [v, AV.int .u8 41] ++ [])] (AMode.pan v_12) st).bind fun o => outL false base o.fst o.snd) fun v_7 st => (leaveA Tryd.prog (callDA Tryd.prog trydhints (cw) (runW Tryd.prog trydhints)) Tryd.f16 [(0, w0), (1, e1), (87, AV.int .i64 n), (88, AV.bool false), (119, AV.bool false), (132, AV.bool true)] [(31, [v, AV.int .u8 41] ++ [])] (AMode.pan v_7) st).bind fun o => outL false base o.fst o.snd else bif n == 7 then (nilCheckA e1).bind fun v_5 => (ptrAdd 3 v_5).bind fun v_6 => (readA st v_6 1 false).bind fun v_7 => (idxSl st 4 v_7 0).bind fun v_8 => callB (cw 16 [w0, v_8, AV.int .i64 13] st) (fun v_9 st => (nilCheckA w0).bind fun v_10 => (ptrAdd 0 v_10).bind fun v_11 => (nilCheckA e1).bind fun v_12 => (ptrAdd 2 v_12).bind fun v_13 => (readA st v_13 1 false).bind fun v_14 => (strV v_14).bind fun s => (strA BinOp.add [UInt8.ofNat 46] s).bind fun v_15 => (strV v_15).bind fun s => callB (cw 32 [v_11, AV.str s] st) (fun v_16 st => (leaveA Tryd.prog (callDA Tryd.prog trydhints (cw) (runW Tryd.prog trydhints)) Tryd.f16 [(0, w0), (1, e1), (87, AV.int .i64 n), (88, AV.bool false), (119, AV.bool false), (132, AV.bool false), (145, AV.bool true)] [(31, [v, AV.int .u8 41] ++ [])] AMode.ret st).bind fun o => outL false base o.fst o.snd) fun v_16 st => (leaveA Tryd.prog (callDA Tryd.prog trydhints (cw) (runW Tryd.prog trydhints)) Tryd.f16 (List.filter (fun p => !(some 154 == some p.fst || (some 155 == some p.fst || (some 156 == some p.fst || (some 157 == some p.fst || (some 158 == some p.fst || (some 159 == some p.fst || (some 160 == some p.fst || (some 161 == some p.fst || (some 162 == some p.fst || false)))))))))) [(0, w0), (1, e1), (87, AV.int .i64 n), (88, AV.bool false), (119, AV.bool false), (132, AV.bool false), (145, AV.bool true)]) [(31, [v, AV.int .u8 41] ++ [])] (AMode.pan v_16) st).bind fun o => outL false base o.fst o.snd) fun v_9 st => (leaveA Tryd.prog (callDA Tryd.prog trydhints (cw) (runW Tryd.prog trydhints)) Tryd.f16 [(0, w0), (1, e1), (87, AV.int .i64 n), (88, AV.bool false), (119, AV.bool false), (132, AV.bool false), (145, AV.bool true)] [(31, [v, AV.int .u8 41] ++ [])] (AMode.pan v_9) st).bind fun o => outL false base o.fst o.snd else bif n == 8 then (nilCheckA e1).bind fun v_5 => (ptrAdd 3 v_5).bind fun v_6 => (readA st v_6 1 false).bind fun v_7 => (idxSl st 4 v_7 0).bind fun v_8 => callB (cw 16 [w0, v_8, AV.int .i64 13] st) (fun v_9 st => (nilCheckA w0).bind fun v_10 => (ptrAdd 0 v_10).bind fun v_11 => callB (cw 31 [v_11, AV.int .u8 91] st) (fun v_12 st => (nilCheckA e1).bind fun v_13 => (ptrAdd 3 v_13).bind fun v_14 => (readA st v_14 1 false).bind fun v_15 => (idxSl st 4 v_15 1).bind fun v_16 => callB (cw 16 [w0, v_16, AV.int .i64 0] st) (fun v_17 st => (nilCheckA w0).bind fun v_18 => (ptrAdd 0 v_18).bind fun v_19 => callB (cw 31 [v_19, AV.int .u8 93] st) (fun v_20 st => (leaveA Tryd.prog (callDA Tryd.prog trydhints (cw) (runW Tryd.prog trydhints)) Tryd.f16 [(0, w0), (1, e1), (87, AV.int .i64 n), (88, AV.bool false), (119, AV.bool false), (132, AV.bool false), (145, AV.bool false), (163, AV.bool true)] [(31, [v, AV.int .u8 41] ++ [])] AMode.ret st).bind fun o => outL false base o.fst o.snd) fun v_20 st => (leaveA Tryd.prog (callDA Tryd.prog trydhints (cw) (runW Tryd.prog trydhints)) Tryd.f16 [(0, w0), (1, e1), (87, AV.int .i64 n), (88, AV.bool false), (119, AV.bool false), (132, AV.bool false), (145, AV.bool false), (163, AV.bool true)] [(31, [v, AV.int .u8 41] ++ [])] (AMode.pan v_20) st).bind fun o => outL false base o.fst o.snd) fun v_17 st => (leaveA Tryd.prog (callDA Tryd.prog trydhints (cw) (runW Tryd.prog trydhints)) Tryd.f16 [(0, w0), (1, e1), (87, AV.int .i64 n), (88, AV.bool false), (119, AV.bool false), (132, AV.bool false), (145, AV.bool false), (163, AV.bool true)] [(31, [v, AV.int .u8 41] ++ [])] (AMode.pan v_17) st).bind fun o => outL false base o.fst o.snd) fun v_12 st => (leaveA Tryd.prog (callDA Tryd.prog trydhints (cw) (runW Tryd.prog trydhints)) Tryd.f16 [(0, w0), (1, e1), (87, AV.int .i64 n), (88, AV.bool false), (119, AV.bool false), (132, AV.bool false), (145, AV.bool false), (163, AV.bool true)] [(31, [v, AV.int .u8 41] ++ [])] (AMode.pan v_12) st).bind fun o => outL false base o.fst o.snd) fun v_9 st => (leaveA Tryd.prog (callDA Tryd.prog trydhints (cw) (runW Tryd.prog trydhints)) Tryd.f16 [(0, w0), (1, e1), (87, AV.int .i64 n), (88, AV.bool false), (119, AV.bool false), (132, AV.bool false), (145, AV.bool false), (163, AV.bool true)] [(31, [v, AV.int .u8 41] ++ [])] (AMode.pan v_9) st).bind fun o => outL false base o.fst o.snd else bif n == 9 then (nilCheckA w0).bind fun v_5 => (ptrAdd 0 v_5).bind fun v_6 => callB (cw 25 [] st) (fun v_7 st_1 => (nilCheckA e1).bind fun v_8 => (ptrAdd 1 v_8).bind fun v_9 => (readA st_1 v_9 1 false).bind fun v_10 => (intV IntKind.i64 v_10).bind fun n_1 => (natA (AV.int .i64 (IntKind.i64.wrap (n_1 - 1)))).bind fun j => (idxSl st_1 1 v_7 j).bind fun v_11 => (readA st_1 v_11 1 false).bind fun v_12 => (strV v_12).bind fun s => (strA BinOp.add s [UInt8.ofNat 40]).bind fun v_13 => (strV v_13).bind fun s_1 => callB (cw 32 [v_6, AV.str s_1] st_1) (fun v_14 st_2 => if ((if isIp v_9 = true then true else (List.range.loop [st_2, st_1, st].length []).all fun s => if 0 ≤ s ∧ s ≤ 1 then
 match [st_2, st_1, st][[st_2, st_1, st].length - 1 - s]? with
 | some st =>
  match Option.map (fun v => (Res.val v, st)) (ldA Tryd.prog st 3 v_9) with
  | some (Res.val v', snd) => (AV.int .i64 n_1).beq v'
  | x => false
 | none => false else true) && true) = true then (nilCheckA e1).bind fun v_15 => (ptrAdd 3 v_15).bind fun v_16 => (readA st_2 v_16 1 false).bind fun v_17 => (idxSl st_2 4 v_17 0).bind fun v_18 => callB (cw 16 [w0, v_18, AV.int .i64 0] st_2) (fun v_19 st => (nilCheckA w0).bind fun v_20 => (ptrAdd 0 v_20).bind fun v_21 => callB (cw 31 [v_21, AV.int .u8 41] st) (fun v_22 st => (leaveA Tryd.prog (callDA Tryd.prog trydhints (cw) (runW Tryd.prog trydhints)) Tryd.f16 [(0, w0), (1, e1), (87, AV.int .i64 n), (88, AV.bool false), (119, AV.bool false), (132, AV.bool false), (145, AV.bool false), (163, AV.bool false), (187, AV.bool true)] [(31, [v, AV.int .u8 41] ++ [])] AMode.ret st).bind fun o => outL false base o.fst o.snd) fun v_22 st => (leaveA Tryd.prog (callDA Tryd.prog trydhints (cw) (runW Tryd.prog trydhints)) Tryd.f16 [(0, w0), (1, e1), (87, AV.int .i64 n), (88, AV.bool false), (119, AV.bool false), (132, AV.bool false), (145, AV.bool false), (163, AV.bool false), (187, AV.bool true)] [(31, [v, AV.int .u8 41] ++ [])] (AMode.pan v_22) st).bind fun o => outL false base o.fst o.snd) fun v_19 st => (leaveA Tryd.prog (callDA Tryd.prog trydhints (cw) (runW Tryd.prog trydhints)) Tryd.f16 [(0, w0), (1, e1), (87, AV.int .i64 n), (88, AV.bool false), (119, AV.bool false), (132, AV.bool false), (145, AV.bool false), (163, AV.bool false), (187, AV.bool true)] [(31, [v, AV.int .u8 41] ++ [])] (AMode.pan v_19) st).bind fun o => outL false base o.fst o.snd else none) fun v_14 st_2 => if ((if isIp v_9 = true then true else (List.range.loop [st_1, st].length []).all fun s => if 0 ≤ s ∧ s ≤ 1 then
 match [st_1, st][[st_1, st].length - 1 - s]? with
 | some st =>
  match Option.map (fun v => (Res.val v, st)) (ldA Tryd.prog st 3 v_9) with
  | some (Res.val v', snd) => (AV.int .i64 n_1).beq v'
  | x => false
 | none => false else true) && true) = true then none else none) fun v st => none else bif n == 4 then (nilCheckA w0).bind fun v_5 => (ptrAdd 0 v_5).bind fun v_6 => (nilCheckA e1).bind fun v_7 => (ptrAdd 1 v_7).bind fun v_8 => (readA st v_8 1 false).bind fun v_9 => (intV IntKind.i64 v_9).bind fun n_1 => callB (cw 33 [AV.int .i64 n_1] st) (fun v_10 st => (strV v_10).bind fun s => callB (cw 32 [v_6, AV.str s] st) (fun v_11 st => (leaveA Tryd.prog (callDA Tryd.prog trydhints (cw) (runW Tryd.prog trydhints)) Tryd.f16 [(0, w0), (1, e1), (87, AV.int .i64 n), (88, AV.bool false), (119, AV.bool false), (132, AV.bool false), (145, AV.bool false), (163, AV.bool false), (187, AV.bool false), (213, AV.bool true)] [(31, [v, AV.int .u8 41] ++ [])] AMode.ret st).bind fun o => outL false base o.fst o.snd) fun v_11 st => (leaveA Tryd.prog (callDA Tryd.prog trydhints (cw) (runW Tryd.prog trydhints)) Tryd.f16 (List.filter (fun p => !(some 215 == some p.fst || (some 216 == some p.fst || (some 217 == some p.fst || (some 218 == some p.fst || (some 219 == some p.fst || (some 220 == some p.fst || (some 221 == some p.fst || (some 222 == some p.fst || (some 223 == some p.fst || false)))))))))) [(0, w0), (1, e1), (87, AV.int .i64 n), (88, AV.bool false), (119, AV.bool false), (132, AV.bool false), (145, AV.bool false), (163, AV.bool false), (187, AV.bool false), (213, AV.bool true)]) [(31, [v, AV.int .u8 41] ++ [])] (AMode.pan v_11) st).bind fun o => outL false base o.fst o.snd) fun v_10 st => (leaveA Tryd.prog (callDA Tryd.prog trydhints (cw) (runW Tryd.prog trydhints)) Tryd.f16 (List.filter (fun p => !(some 215 == some p.fst || (some 216 == some p.fst || (some 217 == some p.fst || (some 218 == some p.fst || (some 219 == some p.fst || (some 220 == some p.fst || (some 221 == some p.fst || (some 222 == some p.fst || (some 223 == some p.fst || false)))))))))) [(0, w0), (1, e1), (87, AV.int .i64 n), (88, AV.bool false), (119, AV.bool false), (132, AV.bool false), (145, AV.bool false), (163, AV.bool false), (187, AV.bool false), (213, AV.bool true)]) [(31, [v, AV.int .u8 41] ++ [])] (AMode.pan v_10) st).bind fun o => outL false base o.fst o.snd else bif n == 5 then (nilCheckA e1).bind fun v_5 => (ptrAdd 2 v_5).bind fun v_6 => (readA st v_6 1 false).bind fun v_7 => (strV v_7).bind fun s => callB (cw 34 [w0, AV.str s] st) (fun v_8 st => (leaveA Tryd.prog (callDA Tryd.prog trydhints (cw) (runW Tryd.prog trydhints)) Tryd.f16 [(0, w0), (1, e1), (87, AV.int .i64 n), (88, AV.bool false), (119, AV.bool false), (132, AV.bool false), (145, AV.bool false), (163, AV.bool false), (187, AV.bool false), (213, AV.bool false), (224, AV.bool true)] [(31, [v, AV.int .u8 41] ++ [])] AMode.ret st).bind fun o => outL false base o.fst o.snd) fun v_8 st => (leaveA Tryd.prog (callDA Tryd.prog trydhints (cw) (runW Tryd.prog trydhints)) Tryd.f16 [(0, w0), (1, e1), (87, AV.int .i64 n), (88, AV.bool false), (119, AV.bool false), (132, AV.bool false), (145, AV.bool false), (163, AV.bool false), (187, AV.bool false), (213, AV.bool false), (224, AV.bool true)] [(31, [v, AV.int .u8 41] ++ [])] (AMode.pan v_8) st).bind fun o => outL false base o.fst o.snd else bif n == 6 then (nilCheckA w0).bind fun v_5 => (ptrAdd 0 v_5).bind fun v_6 => (nilCheckA e1).bind fun v_7 => (ptrAdd 2 v_7).bind fun v_8 => (readA st v_8 1 false).bind fun v_9 => (strV v_9).bind fun s => callB (cw 32 [v_6, AV.str s] st) (fun v_10 st => (leaveA Tryd.prog (callDA Tryd.prog trydhints (cw) (runW Tryd.prog trydhints)) Tryd.f16 [(0, w0), (1, e1), (87, AV.int .i64 n), (88, AV.bool false), (119, AV.bool false), (132, AV.bool false), (145, AV.bool false), (163, AV.bool false), (187, AV.bool false), (213, AV.bool false), (224, AV.bool false), (232, AV.bool true)] [(31, [v, AV.int .u8 41] ++ [])] AMode.ret st).bind fun o => outL false base o.fst o.snd) fun v_10 st => (leaveA Tryd.prog (callDA Tryd.prog trydhints (cw) (runW Tryd.prog trydhints)) Tryd.f16 (List.filter (fun p => !(some 234 == some p.fst || (some 235 == some p.fst || (some 236 == some p.fst || (some 237 == some p.fst || (some 238 == some p.fst || (some 239 == some p.fst || (some 240 == some p.fst || (some 241 == some p.fst || false))))))))) [(0, w0), (1, e1), (87, AV.int .i64 n), (88, AV.bool false), (119, AV.bool false), (132, AV.bool false), (145, AV.bool false), (163, AV.bool false), (187, AV.bool false), (213, AV.bool false), (224, AV.bool false), (232, AV.bool true)]) [(31, [v, AV.int .u8 41] ++ [])] (AMode.pan v_10) st).bind fun o => outL false base o.fst o.snd else bif n == 1 then (nilCheckA w0).bind fun v_5 => (ptrAdd 0 v_5).bind fun v_6 => callB (cw 32 [v_6, AV.str [UInt8.ofNat 110, UInt8.ofNat 117, UInt8.ofNat 108, UInt8.ofNat 108]] st) (fun v_7 st => (leaveA Tryd.prog (callDA Tryd.prog trydhints (cw) (runW Tryd.prog trydhints)) Tryd.f16 [(0, w0), (1, e1), (87, AV.int .i64 n), (88, AV.bool false), (119, AV.bool false), (132, AV.bool false), (145, AV.bool false), (163, AV.bool false), (187, AV.bool false), (213, AV.bool false), (224, AV.bool false), (232, AV.bool false), (242, AV.bool true)] [(31, [v, AV.int .u8 41] ++ [])] AMode.ret st).bind fun o => outL false base o.fst o.snd) fun v_7 st => (leaveA Tryd.prog (callDA Tryd.prog trydhints (cw) (runW Tryd.prog trydhints)) Tryd.f16 [(0, w0), (1, e1), (87, AV.int .i64 n), (88, AV.bool false), (119, AV.bool false), (132, AV.bool false), (145, AV.bool false), (163, AV.bool false), (187, AV.bool false), (213, AV.bool false), (224, AV.bool false), (232, AV.bool false), (242, AV.bool true)] [(31, [v, AV.int .u8 41] ++ [])] (AMode.pan v_7) st).bind fun o => outL false base o.fst o.snd else bif n == 2 then (nilCheckA w0).bind fun v_5 => (ptrAdd 0 v_5).bind fun v_6 => callB (cw 32 [v_6, AV.str [UInt8.ofNat 102, UInt8.ofNat 97, UInt8.ofNat 108, UInt8.ofNat 115, UInt8.ofNat 101]] st) (fun v_7 st => (leaveA Tryd.prog (callDA Tryd.prog trydhints (cw) (runW Tryd.prog trydhints)) Tryd.f16 [(0, w0), (1, e1), (87, AV.int .i64 n), (88, AV.bool false), (119, AV.bool false), (132, AV.bool false), (145, AV.bool false), (163, AV.bool false), (187, AV.bool false), (213, AV.bool false), (224, AV.bool false), (232, AV.bool false), (242, AV.bool false), (248, AV.bool true)] [(31, [v, AV.int .u8 41] ++ [])] AMode.ret st).bind fun o => outL false base o.fst o.snd) fun v_7 st => (leaveA Tryd.prog (callDA Tryd.prog trydhints (cw) (runW Tryd.prog trydhints)) Tryd.f16 [(0, w0), (1, e1), (87, AV.int .i64 n), (88, AV.bool false), (119, AV.bool false), (132, AV.bool false), (145, AV.bool false), (163, AV.bool false), (187, AV.bool false), (213, AV.bool false), (224, AV.bool false), (232, AV.bool false), (242, AV.bool false), (248, AV.bool true)] [(31, [v, AV.int .u8 41] ++ [])] (AMode.pan v_7) st).bind fun o => outL false base o.fst o.snd else bif n == 3 then (nilCheckA w0).bind fun v_5 => (ptrAdd 0 v_5).bind fun v_6 => callB (cw 32 [v_6, AV.str [UInt8.ofNat 116, UInt8.ofNat 114, UInt8.ofNat 117, UInt8.ofNat 101]] st) (fun v_7 st => (leaveA Tryd.prog (callDA Tryd.prog trydhints (cw) (runW Tryd.prog trydhints)) Tryd.f16 [(0, w0), (1, e1), (87, AV.int .i64 n), (88, AV.bool false), (119, AV.bool false), (132, AV.bool false), (145, AV.bool false), (163, AV.bool false), (187, AV.bool false), (213, AV.bool false), (224, AV.bool false), (232, AV.bool false), (242, AV.bool false), (248, AV.bool false), (254, AV.bool true)] [(31, [v, AV.int .u8 41] ++ [])] AMode.ret st).bind fun o => outL false base o.fst o.snd) fun v_7 st => (leaveA Tryd.prog (callDA Tryd.prog trydhints (cw) (runW Tryd.prog trydhints)) Tryd.f16 [(0, w0), (1, e1), (87, AV.int .i64 n), (88, AV.bool false), (119, AV.bool false), (132, AV.bool false), (145, AV.bool false), (163, AV.bool false), (187, AV.bool false), (213, AV.bool false), (224, AV.bool false), (232, AV.bool false), (242, AV.bool false), (248, AV.bool false), (254, AV.bool true)] [(31, [v, AV.int .u8 41] ++ [])] (AMode.pan v_7) st).bind fun o => outL false base o.fst o.snd else (leaveA Tryd.prog (callDA Tryd.prog trydhints (cw) (runW Tryd.prog trydhints)) Tryd.f16 [(0, w0), (1, e1), (87, AV.int .i64 n), (88, AV.bool false), (119, AV.bool false), (132, AV.bool false), (145, AV.bool false), (163, AV.bool false), (187, AV.bool false), (213, AV.bool false), (224, AV.bool false), (232, AV.bool false), (242, AV.bool false), (248, AV.bool false), (254, AV.bool false)] [(31, [v, AV.int .u8 41] ++ [])] AMode.ret st).bind fun o => outL false base o.fst o.snd) fun v st => outL false base (AOut.pan v) st else (strA BinOp.neq op7 []).bind fun v => (boolV v).bind fun b => bif b then (nilCheckA e1).bind fun v => (ptrAdd 3 v).bind fun v => (readA st v 1 false).bind fun v => (idxSl st 4 v 0).bind fun v => callB (cw 16 [w0, v, AV.int .i64 12] st) (fun v st => (nilCheckA w0).bind fun v => (ptrAdd 0 v).bind fun v => (strA BinOp.add [UInt8.ofNat 32] op7).bind fun v_1 => (strV v_1).bind fun s => (strA BinOp.add s [UInt8.ofNat 32]).bind fun v_2 => (strV v_2).bind fun s => callB (cw 32 [v, AV.str s] st) (fun v st => (nilCheckA e1).bind fun v => (ptrAdd 3 v).bind fun v => (readA st v 1 false).bind fun v => (idxSl st 4 v 1).bind fun v => callB (cw 16 [w0, v, AV.int .i64 13] st) (fun v st => outL false base (AOut.ret (AV.tup [])) st) fun v st => outL false base (AOut.pan v) st) fun v st => outL false base (AOut.pan v) st) fun v st => outL false base (AOut.pan v) st else (nilCheckA e1).bind fun v => (ptrAdd 0 v).bind fun v => (readA st v 1 false).bind fun v => (intV IntKind.i64 v).bind fun n => bif n == 31 then (nilCheckA e1).bind fun v => (ptrAdd 3 v).bind fun v => (readA st v 1 false).bind fun v => (idxSl st 4 v 0).bind fun v => callB (cw 16 [w0, v, AV.int .i64 1] st) (fun v st => (nilCheckA w0).bind fun v => (ptrAdd 0 v).bind fun v => callB (cw 32 [v, AV.str [UInt8.ofNat 32, UInt8.ofNat 63, UInt8.ofNat 32]] st) (fun v st => (nilCheckA e1).bind fun v => (ptrAdd 3 v).bind fun v => (readA st v 1 false).bind fun v => (idxSl st 4 v 1).bind fun v => callB (cw 16 [w0, v, AV.int .i64 0] st) (fun v st => (nilCheckA w0).bind fun v => (ptrAdd 0 v).bind fun v => callB (cw 32 [v, AV.str [UInt8.ofNat 32, UInt8.ofNat 58, UInt8.ofNat 32]] st) (fun v st => (nilCheckA e1).bind fun v => (ptrAdd 3 v).bind fun v => (readA st v 1 false).bind fun v => (idxSl st 4 v 2).bind fun v => callB (cw 16 [w0, v, AV.int .i64 0] st) (fun v st => outL false base (AOut.ret (AV.tup [])) st) fun v st => outL false base (AOut.pan v) st) fun v st => outL false base (AOut.pan v) st) fun v st => outL false base (AOut.pan v) st) fun v st => outL false base (AOut.pan v) st) fun v st => outL false base (AOut.pan v) st else bif n == 10 then (nilCheckA w0).bind fun v => (ptrAdd 0 v).bind fun v => callB (cw 31 [v, AV.int .u8 45] st) (fun v st => (nilCheckA e1).bind fun v => (ptrAdd 3 v).bind fun v => (readA st v 1 false).bind fun v => (idxSl st 4 v 0).bind fun v => callB (cw 16 [w0, v, AV.int .i64 12] st) (fun v st => outL false base (AOut.ret (AV.tup [])) st) fun v st => outL false base (AOut.pan v) st) fun v st => outL false base (AOut.pan v) st else bif n == 11 then (nilCheckA w0).bind fun v => (ptrAdd 0 v).bind fun v => callB (cw 31 [v, AV.int .u8 33] st) (fun v st => (nilCheckA e1).bind fun v => (ptrAdd 3 v).bind fun v => (readA st v 1 false).bind fun v => (idxSl st 4 v 0).bind fun v => callB (cw 16 [w0, v, AV.int .i64 12] st) (fun v st => outL false base (AOut.ret (AV.tup [])) st) fun v st => outL false base (AOut.pan v) st) fun v st => outL false base (AOut.pan v) st else bif n == 7 then (nilCheckA e1).bind fun v => (ptrAdd 3 v).bind fun v => (readA st v 1 false).bind fun v => (idxSl st 4 v 0).bind fun v => callB (cw 16 [w0, v, AV.int .i64 13] st) (fun v st => (nilCheckA w0).bind fun v => (ptrAdd 0 v).bind fun v => (nilCheckA e1).bind fun v_1 => (ptrAdd 2 v_1).bind fun v_2 => (readA st v_2 1 false).bind fun v_3 => (strV v_3).bind fun s => (strA BinOp.add [UInt8.ofNat 46] s).bind fun v_4 => (strV v_4).bind fun s => callB (cw 32 [v, AV.str s] st) (fun v st => outL false base (AOut.ret (AV.tup [])) st) fun v st => outL false base (AOut.pan v) st) fun v st => outL false base (AOut.pan v) st else bif n == 8 then (nilCheckA e1).bind fun v => (ptrAdd 3 v).bind fun v => (readA st v 1 false).bind fun v => (idxSl st 4 v 0).bind fun v => callB (cw 16 [w0, v, AV.int .i64 13] st) (fun v st => (nilCheckA w0).bind fun v => (ptrAdd 0 v).bind fun v => callB (cw 31 [v, AV.int .u8 91] st) (fun v st => (nilCheckA e1).bind fun v => (ptrAdd 3 v).bind fun v => (readA st v 1 false).bind fun v => (idxSl st 4 v 1).bind fun v => callB (cw 16 [w0, v, AV.int .i64 0] st) (fun v st => (nilCheckA w0).bind fun v => (ptrAdd 0 v).bind fun v => callB (cw 31 [v, AV.int .u8 93] st) (fun v st => outL false base (AOut.ret (AV.tup [])) st) fun v st => outL false base (AOut.pan v) st) fun v st => outL false base (AOut.pan v) st) fun v st => outL false base (AOut.pan v) st) fun v st => outL false base (AOut.pan v) st else bif n == 9 then (nilCheckA w0).bind fun v => (ptrAdd 0 v).bind fun v_1 => callB (cw 25 [] st) (fun v_2 st_1 => (nilCheckA e1).bind fun v_3 => (ptrAdd 1 v_3).bind fun v_4 => (readA st_1 v_4 1 false).bind fun v_5 => (intV IntKind.i64 v_5).bind fun n_1 => (natA (AV.int .i64 (IntKind.i64.wrap (n_1 - 1)))).bind fun j => (idxSl st_1 1 v_2 j).bind fun v_6 => (readA st_1 v_6 1 false).bind fun v_7 => (strV v_7).bind fun s => (strA BinOp.add s [UInt8.ofNat 40]).bind fun v_8 => (strV v_8).bind fun s_1 => callB (cw 32 [v_1, AV.str s_1] st_1) (fun v_9 st_2 => if ((if isIp v_4 = true then true else (List.range.loop [st_2, st_1, st].length []).all fun s => if 0 ≤ s ∧ s ≤ 1 then
 match [st_2, st_1, st][[st_2, st_1, st].length - 1 - s]? with
 | some st =>
  match Option.map (fun v => (Res.val v, st)) (ldA Tryd.prog st 3 v_4) with
  | some (Res.val v', snd) => (AV.int .i64 n_1).beq v'
  | x => false
 | none => false else true) && true) = true then (nilCheckA e1).bind fun v => (ptrAdd 3 v).bind fun v => (readA st_2 v 1 false).bind fun v => (idxSl st_2 4 v 0).bind fun v => callB (cw 16 [w0, v, AV.int .i64 0] st_2) (fun v st => (nilCheckA w0).bind fun v => (ptrAdd 0 v).bind fun v => callB (cw 31 [v, AV.int .u8 41] st) (fun v st => outL false base (AOut.ret (AV.tup [])) st) fun v st => outL false base (AOut.pan v) st) fun v st => outL false base (AOut.pan v) st else none) fun v_9 st_2 => if ((if isIp v_4 = true then true else (List.range.loop [st_1, st].length []).all fun s => if 0 ≤ s ∧ s ≤ 1 then
 match [st_1, st][[st_1, st].length - 1 - s]? with
 | some st =>
  match Option.map (fun v => (Res.val v, st)) (ldA Tryd.prog st 3 v_4) with
  | some (Res.val v', snd) => (AV.int .i64 n_1).beq v'
  | x => false
 | none => false else true) && true) = true then none else none) fun v st => none else bif n == 4 then (nilCheckA w0).bind fun v => (ptrAdd 0 v).bind fun v => (nilCheckA e1).bind fun v_1 => (ptrAdd 1 v_1).bind fun v_2 => (readA st v_2 1 false).bind fun v_3 => (intV IntKind.i64 v_3).bind fun n => callB (cw 33 [AV.int .i64 n] st) (fun v_4 st => (strV v_4).bind fun s => callB (cw 32 [v, AV.str s] st) (fun v st => outL false base (AOut.ret (AV.tup [])) st) fun v st => outL false base (AOut.pan v) st) fun v st => outL false base (AOut.pan v) st else bif n == 5 then (nilCheckA e1).bind fun v => (ptrAdd 2 v).bind fun v => (readA st v 1 false).bind fun v => (strV v).bind fun s => callB (cw 34 [w0, AV.str s] st) (fun v st => outL false base (AOut.ret (AV.tup [])) st) fun v st => outL false base (AOut.pan v) st else bif n == 6 then (nilCheckA w0).bind fun v => (ptrAdd 0 v).bind fun v => (nilCheckA e1).bind fun v_1 => (ptrAdd 2 v_1).bind fun v_2 => (readA st v_2 1 false).bind fun v_3 => (strV v_3).bind fun s => callB (cw 32 [v, AV.str s] st) (fun v st => outL false base (AOut.ret (AV.tup [])) st) fun v st => outL false base (AOut.pan v) st else bif n == 1 then (nilCheckA w0).bind fun v => (ptrAdd 0 v).bind fun v => callB (cw 32 [v, AV.str [UInt8.ofNat 110, UInt8.ofNat 117, UInt8.ofNat 108, UInt8.ofNat 108]] st) (fun v st => outL false base (AOut.ret (AV.tup [])) st) fun v st => outL false base (AOut.pan v) st else bif n == 2 then (nilCheckA w0).bind fun v => (ptrAdd 0 v).bind fun v => callB (cw 32 [v, AV.str [UInt8.ofNat 102, UInt8.ofNat 97, UInt8.ofNat 108, UInt8.ofNat 115, UInt8.ofNat 101]] st) (fun v st => outL false base (AOut.ret (AV.tup [])) st) fun v st => outL false base (AOut.pan v) st else bif n == 3 then (nilCheckA w0).bind fun v => (ptrAdd 0 v).bind fun v => callB (cw 32 [v, AV.str [UInt8.ofNat 116, UInt8.ofNat 114, UInt8.ofNat 117, UInt8.ofNat 101]] st) (fun v st => outL false base (AOut.ret (AV.tup [])) st) fun v st => outL false base (AOut.pan v) st else outL false base (AOut.ret (AV.tup [])) st else bif n == 11 then bif decide (12 < least2) then (nilCheckA w0).bind fun v => (ptrAdd 0 v).bind fun v => callB (cw 31 [v, AV.int .u8 40] st) (fun v st => (nilCheckA w0).bind fun v => (ptrAdd 0 v).bind fun v => (strA BinOp.neq op7 []).bind fun v_1 => (boolV v_1).bind fun b => bif b then (nilCheckA e1).bind fun v_2 => (ptrAdd 3 v_2).bind fun v_3 => (readA st v_3 1 false).bind fun v_4 => (idxSl st 4 v_4 0).bind fun v_5 => callB (cw 16 [w0, v_5, AV.int .i64 12] st) (fun v_6 st => (nilCheckA w0).bind fun v_7 => (ptrAdd 0 v_7).bind fun v_8 => (strA BinOp.add [UInt8.ofNat 32] op7).bind fun v_9 => (strV v_9).bind fun s => (strA BinOp.add s [UInt8.ofNat 32]).bind fun v_10 => (strV v_10).bind fun s => callB (cw 32 [v_8, AV.str s] st) (fun v_11 st => (nilCheckA e1).bind fun v_12 => (ptrAdd 3 v_12).bind fun v_13 => (readA st v_13 1 false).bind fun v_14 => (idxSl st 4 v_14 1).bind fun v_15 => callB (cw 16 [w0, v_15, AV.int .i64 13] st) (fun v_16 st => (leaveA Tryd.prog (callDA Tryd.prog trydhints (cw) (runW Tryd.prog trydhints)) Tryd.f16 [(0, w0), (1, e1), (6, AV.int .i64 12), (7, AV.str op7), (57, AV.bool true)] [(31, [v, AV.int .u8 41] ++ [])] AMode.ret st).bind fun o => outL false base o.fst o.snd) fun v_16 st => (leaveA Tryd.prog (callDA Tryd.prog trydhints (cw) (runW Tryd.prog trydhints)) Tryd.f16 [(0, w0), (1, e1), (6, AV.int .i64 12), (7, AV.str op7), (57, AV.bool true)] [(31, [v, AV.int .u8 41] ++ [])] (AMode.pan v_16) st).bind fun o => outL false base o.fst o.snd) fun v_11 st => (leaveA Tryd.prog (callDA Tryd.prog trydhints (cw) (runW Tryd.prog trydhints)) Tryd.f16 [(0, w0), (1, e1), (6, AV.int .i64 12), (7, AV.str op7), (57, AV.bool true)] [(31, [v, AV.int .u8 41] ++ [])] (AMode.pan v_11) st).bind fun o => outL false base o.fst o.snd) fun v_6 st => (leaveA Tryd.prog (callDA Tryd.prog trydhints (cw) (runW Tryd.prog trydhints)) Tryd.f16 [(0, w0), (1, e1), (6, AV.int .i64 12), (7, AV.str op7), (57, AV.bool true)] [(31, [v, AV.int .u8 41] ++ [])] (AMode.pan v_6) st).bind fun o => outL false base o.fst o.snd else (nilCheckA e1).bind fun v_2 => (ptrAdd 0 v_2).bind fun v_3 => (readA st v_3 1 false).bind fun v_4 => (intV IntKind.i64 v_4).bind fun n => bif n == 31 then (nilCheckA e1).bind fun v_5 => (ptrAdd 3 v_5).bind fun v_6 => (readA st v_6 1 false).bind fun v_7 => (idxSl st 4 v_7 0).bind fun v_8 => callB (cw 16 [w0, v_8, AV.int .i64 1] st) (fun v_9 st => (nilCheckA w0).bind fun v_10 => (ptrAdd 0 v_10).bind fun v_11 => callB (cw 32 [v_11, AV.str [UInt8.ofNat 32, UInt8.ofNat 63, UInt8.ofNat 32]] st) (fun v_12 st => (nilCheckA e1).bind fun v_13 => (ptrAdd 3 v_13).bind fun v_14 => (readA st v_14 1 false).bind fun v_15 => (idxSl st 4 v_15 1).bind fun v_16 => callB (cw 16 [w0, v_16, AV.int .i64 0] st) (fun v_17 st => (nilCheckA w0).bind fun v_18 => (ptrAdd 0 v_18).bind fun v_19 => callB (cw 32 [v_19, AV.str [UInt8.ofNat 32, UInt8.ofNat 58, UInt8.ofNat 32]] st) (fun v_20 st => (nilCheckA e1).bind fun v_21 => (ptrAdd 3 v_21).bind fun v_22 => (readA st v_22 1 false).bind fun v_23 => (idxSl st 4 v_23 2).bind fun v_24 => callB (cw 16 [w0, v_24, AV.int .i64 0] st) (fun v_25 st => (leaveA Tryd.prog (callDA Tryd.prog trydhints (cw) (runW Tryd.prog trydhints)) Tryd.f16 [(0, w0), (1, e1), (87, AV.int .i64 n), (88, AV.bool true)] [(31, [v, AV.int .u8 41] ++ [])] AMode.ret st).bind fun o => outL false base o.fst o.snd) fun v_25 st => (leaveA Tryd.prog (callDA Tryd.prog trydhints (cw) (runW Tryd.prog trydhints)) Tryd.f16 [(0, w0), (1, e1), (87, AV.int .i64 n), (88, AV.bool true)] [(31, [v, AV.int .u8 41] ++ [])] (AMode.pan v_25) st).bind fun o => outL false base o.fst o.snd) fun v_20 st => (leaveA Tryd.prog (callDA Tryd.prog trydhints (cw) (runW Tryd.prog trydhints)) Tryd.f16 [(0, w0), (1, e1), (87, AV.int .i64 n), (88, AV.bool true)] [(31, [v, AV.int .u8 41] ++ [])] (AMode.pan v_20) st).bind fun o => outL false base o.fst o.snd) fun v_17 st => (leaveA Tryd.prog (callDA Tryd.prog trydhints (cw) (runW Tryd.prog trydhints)) Tryd.f16 [(0, w0), (1, e1), (87, AV.int .i64 n), (88, AV.bool true)] [(31, [v, AV.int .u8 41] ++ [])] (AMode.pan v_17) st).bind fun o => outL false base o.fst o.snd) fun v_12 st => (leaveA Tryd.prog (callDA Tryd.prog trydhints (cw) (runW Tryd.prog trydhints)) Tryd.f16 [(0, w0), (1, e1), (87, AV.int .i64 n), (88, AV.bool true)] [(31, [v, AV.int .u8 41] ++ [])] (AMode.pan v_12) st).bind fun o => outL false base o.fst o.snd) fun v_9 st => (leaveA Tryd.prog (callDA Tryd.prog trydhints (cw) (runW Tryd.prog trydhints)) Tryd.f16 [(0, w0), (1, e1), (87, AV.int .i64 n), (88, AV.bool true)] [(31, [v, AV.int .u8 41] ++ [])] (AMode.pan v_9) st).bind fun o => outL false base o.fst o.snd else bif n == 10 then (nilCheckA w0).bind fun v_5 => (ptrAdd 0 v_5).bind fun v_6 => callB (cw 31 [v_6, AV.int .u8 45] st) (fun v_7 st => (nilCheckA e1).bind fun v_8 => (ptrAdd 3 v_8).bind fun v_9 => (readA st v_9 1 false).bind fun v_10 => (idxSl st 4 v_10 0).bind fun v_11 => callB (cw 16 [w0, v_11, AV.int .i64 12] st) (fun v_12 st => (leaveA Tryd.prog (callDA Tryd.prog trydhints (cw) (runW Tryd.prog trydhints)) Tryd.f16 [(0, w0), (1, e1), (87, AV.int .i64 n), (88, AV.bool false), (119, AV.bool true)] [(31, [v, AV.int .u8 41] ++ [])] AMode.ret st).bind fun o => outL false base o.fst o.snd) fun v_12 st => (leaveA Tryd.prog (callDA Tryd.prog trydhints (cw) (runW Tryd.prog trydhints)) Tryd.f16 [(0, w0), (1, e1), (87, AV.int .i64 n), (88, AV.bool false), (119, AV.bool true)] [(31, [v, AV.int .u8 41] ++ [])] (AMode.pan v_12) st).bind fun o => outL false base o.fst o.snd) fun v_7 st => (leaveA Tryd.prog (callDA Tryd.prog trydhints (cw) (runW Tryd.prog trydhints)) Tryd.f16 [(0, w0), (1, e1), (87, AV.int .i64 n), (88, AV.bool false), (119, AV.bool true)] [(31, [v, AV.int .u8 41] ++ [])] (AMode.pan v_7) st).bind fun o => outL false base o.fst o.snd else bif n == 11 then (nilCheckA w0).bind fun v_5 => (ptrAdd 0 v_5).bind fun v_6 => callB (cw 31 [v_6, AV.int .u8 33] st) (fun v_7 st => (nilCheckA e1).bind fun v_8 => (ptrAdd 3 v_8).bind fun v_9 => (readA st v_9 1 false).bind fun v_10 => (idxSl st 4 v_10 0).bind fun v_11 => callB (cw 16 [w0, v_11, AV.int .i64 12] st) (fun v_12 st => (leaveA Tryd.prog (callDA Tryd.prog trydhints (cw) (runW Tryd.prog trydhints)) Tryd.f16 [(0, w0), (1, e1), (87, AV.int .i64 n), (88, AV.bool false), (119, AV.bool false), (132, AV.bool true)] [(31, [v, AV.int .u8 41] ++ [])] AMode.ret st).bind fun o => outL false base o.fst o.snd) fun v_12 st => (leaveA Tryd.prog (callDA Tryd.prog trydhints (cw) (runW Tryd.prog trydhints)) Tryd.f16 [(0, w0), (1, e1), (87, AV.int .i64 n), (88, AV.bool false), (119, AV.bool false), (132, AV.bool true)] [(31, [v, AV.int .u8 41] ++ [])] (AMode.pan v_12) st).bind fun o => outL false base o.fst o.snd) fun v_7 st => (leaveA Tryd.prog (callDA Tryd.prog trydhints (cw) (runW Tryd.prog trydhints)) Tryd.f16 [(0, w0), (1, e1), (87, AV.int .i64 n), (88, AV.bool false), (119, AV.bool false), (132, AV.bool true)] [(31, [v, AV.int .u8 41] ++ [])] (AMode.pan v_7) st).bind fun o => outL false base o.fst o.snd else bif n == 7 then (nilCheckA e1).bind fun v_5 => (ptrAdd 3 v_5).bind fun v_6 => (readA st v_6 1 false).bind fun v_7 => (idxSl st 4 v_7 0).bind fun v_8 => callB (cw 16 [w0, v_8, AV.int .i64 13] st) (fun v_9 st => (nilCheckA w0).bind fun v_10 => (ptrAdd 0 v_10).bind fun v_11 => (nilCheckA e1).bind fun v_12 => (ptrAdd 2 v_12).bind fun v_13 => (readA st v_13 1 false).bind fun v_14 => (strV v_14).bind fun s => (strA BinOp.add [UInt8.ofNat 46] s).bind fun v_15 => (strV v_15).bind fun s => callB (cw 32 [v_11, AV.str s] st) (fun v_16 st => (leaveA Tryd.prog (callDA Tryd.prog trydhints (cw) (runW Tryd.prog trydhints)) Tryd.f16 [(0, w0), (1, e1), (87, AV.int .i64 n), (88, AV.bool false), (119, AV.bool false), (132, AV.bool false), (145, AV.bool true)] [(31, [v, AV.int .u8 41] ++ [])] AMode.ret st).bind fun o => outL false base o.fst o.snd) fun v_16 st => (leaveA Tryd.prog (callDA Tryd.prog trydhints (cw) (runW Tryd.prog trydhints)) Tryd.f16 (List.filter (fun p => !(some 154 == some p.fst || (some 155 == some p.fst || (some 156 == some p.fst || (some 157 == some p.fst || (some 158 == some p.fst || (some 159 == some p.fst || (some 160 == some p.fst || (some 161 == some p.fst || (some 162 == some p.fst || false)))))))))) [(0, w0), (1, e1), (87, AV.int .i64 n), (88, AV.bool false), (119, AV.bool false), (132, AV.bool false), (145, AV.bool true)]) [(31, [v, AV.int .u8 41] ++ [])] (AMode.pan v_16) st).bind fun o => outL false base o.fst o.snd) fun v_9 st => (leaveA Tryd.prog (callDA Tryd.prog trydhints (cw) (runW Tryd.prog trydhints)) Tryd.f16 [(0, w0), (1, e1), (87, AV.int .i64 n), (88, AV.bool false), (119, AV.bool false), (132, AV.bool false), (145, AV.bool true)] [(31, [v, AV.int .u8 41] ++ [])] (AMode.pan v_9) st).bind fun o => outL false base o.fst o.snd else bif n == 8 then (nilCheckA e1).bind fun v_5 => (ptrAdd 3 v_5).bind fun v_6 => (readA st v_6 1 false).bind fun v_7 => (idxSl st 4 v_7 0).bind fun v_8 => callB (cw 16 [w0, v_8, AV.int .i64 13] st) (fun v_9 st => (nilCheckA w0).bind fun v_10 => (ptrAdd 0 v_10).bind fun v_11 => callB (cw 31 [v_11, AV.int .u8 91] st) (fun v_12 st => (nilCheckA e1).bind fun v_13 => (ptrAdd 3 v_13).bind fun v_14 => (readA st v_14 1 false).bind fun v_15 => (idxSl st 4 v_15 1).bind fun v_16 => callB (cw 16 [w0, v_16, AV.int .i64 0] st) (fun v_17 st => (nilCheckA w0).bind fun v_18 => (ptrAdd 0 v_18).bind fun v_19 => callB (cw 31 [v_19, AV.int .u8 93] st) (fun v_20 st => (leaveA Tryd.prog (callDA Tryd.prog trydhints (cw) (runW Tryd.prog trydhints)) Tryd.f16 [(0, w0), (1, e1), (87, AV.int .i64 n), (88, AV.bool false), (119, AV.bool false), (132, AV.bool false), (145, AV.bool false), (163, AV.bool true)] [(31, [v, AV.int .u8 41] ++ [])] AMode.ret st).bind fun o => outL false base o.fst o.snd) fun v_20 st => (leaveA Tryd.prog (callDA Tryd.prog trydhints (cw) (runW Tryd.prog trydhints)) Tryd.f16 [(0, w0), (1, e1), (87, AV.int .i64 n), (88, AV.bool false), (119, AV.bool false), (132, AV.bool false), (145, AV.bool false), (163, AV.bool true)] [(31, [v, AV.int .u8 41] ++ [])] (AMode.pan v_20) st).bind fun o => outL false base o.fst o.snd) fun v_17 st => (leaveA Tryd.prog (callDA Tryd.prog trydhints (cw) (runW Tryd.prog trydhints)) Tryd.f16 [(0, w0), (1, e1), (87, AV.int .i64 n), (88, AV.bool false), (119, AV.bool false), (132, AV.bool false), (145, AV.bool false), (163, AV.bool true)] [(31, [v, AV.int .u8 41] ++ [])] (AMode.pan v_17) st).bind fun o => outL false base o.fst o.snd) fun v_12 st => (leaveA Tryd.prog (callDA Tryd.prog trydhints (cw) (runW Tryd.prog trydhints)) Tryd.f16 [(0, w0), (1, e1), (87, AV.int .i64 n), (88, AV.bool false), (119, AV.bool false), (132, AV.bool false), (145, AV.bool false), (163, AV.bool true)] [(31, [v, AV.int .u8 41] ++ [])] (AMode.pan v_12) st).bind fun o => outL false base o.fst o.snd) fun v_9 st => (leaveA Tryd.prog (callDA Tryd.prog trydhints (cw) (runW Tryd.prog trydhints)) Tryd.f16 [(0, w0), (1, e1), (87, AV.int .i64 n), (88, AV.bool false), (119, AV.bool false), (132, AV.bool false), (145, AV.bool false), (163, AV.bool true)] [(31, [v, AV.int .u8 41] ++ [])] (AMode.pan v_9) st).bind fun o => outL false base o.fst o.snd else bif n == 9 then (nilCheckA w0).bind fun v_5 => (ptrAdd 0 v_5).bind fun v_6 => callB (cw 25 [] st) (fun v_7 st_1 => (nilCheckA e1).bind fun v_8 => (ptrAdd 1 v_8).bind fun v_9 => (readA st_1 v_9 1 false).bind fun v_10 => (intV IntKind.i64 v_10).bind fun n_1 => (natA (AV.int .i64 (IntKind.i64.wrap (n_1 - 1)))).bind fun j => (idxSl st_1 1 v_7 j).bind fun v_11 => (readA st_1 v_11 1 false).bind fun v_12 => (strV v_12).bind fun s => (strA BinOp.add s [UInt8.ofNat 40]).bind fun v_13 => (strV v_13).bind fun s_1 => callB (cw 32 [v_6, AV.str s_1] st_1) (fun v_14 st_2 => if ((if isIp v_9 = true then true else (List.range.loop [st_2, st_1, st].length []).all fun s => if 0 ≤ s ∧ s ≤ 1 then
 match [st_2, st_1, st][[st_2, st_1, st].length - 1 - s]? with
 | some st =>
  match Option.map (fun v => (Res.val v, st)) (ldA Tryd.prog st 3 v_9) with
  | some (Res.val v', snd) => (AV.int .i64 n_1).beq v'
  | x => false
 | none => false else true) && true) = true then (nilCheckA e1).bind fun v_15 => (ptrAdd 3 v_15).bind fun v_16 => (readA st_2 v_16 1 false).bind fun v_17 => (idxSl st_2 4 v_17 0).bind fun v_18 => callB (cw 16 [w0, v_18, AV.int .i64 0] st_2) (fun v_19 st => (nilCheckA w0).bind fun v_20 => (ptrAdd 0 v_20).bind fun v_21 => callB (cw 31 [v_21, AV.int .u8 41] st) (fun v_22 st => (leaveA Tryd.prog (callDA Tryd.prog trydhints (cw) (runW Tryd.prog trydhints)) Tryd.f16 [(0, w0), (1, e1), (87, AV.int .i64 n), (88, AV.bool false), (119, AV.bool false), (132, AV.bool false), (145, AV.bool false), (163, AV.bool false), (187, AV.bool true)] [(31, [v, AV.int .u8 41] ++ [])] AMode.ret st).bind fun o => outL false base o.fst o.snd) fun v_22 st => (leaveA Tryd.prog (callDA Tryd.prog trydhints (cw) (runW Tryd.prog trydhints)) Tryd.f16 [(0, w0), (1, e1), (87, AV.int .i64 n), (88, AV.bool false), (119, AV.bool false), (132, AV.bool false), (145, AV.bool false), (163, AV.bool false), (187, AV.bool true)] [(31, [v, AV.int .u8 41] ++ [])] (AMode.pan v_22) st).bind fun o => outL false base o.fst o.snd) fun v_19 st => (leaveA Tryd.prog (callDA Tryd.prog trydhints (cw) (runW Tryd.prog trydhints)) Tryd.f16 [(0, w0), (1, e1), (87, AV.int .i64 n), (88, AV.bool false), (119, AV.bool false), (132, AV.bool false), (145, AV.bool false), (163, AV.bool false), (187, AV.bool true)] [(31, [v, AV.int .u8 41] ++ [])] (AMode.pan v_19) st).bind fun o => outL false base o.fst o.snd else none) fun v_14 st_2 => if ((if isIp v_9 = true then true else (List.range.loop [st_1, st].length []).all fun s => if 0 ≤ s ∧ s ≤ 1 then
 match [st_1, st][[st_1, st].length - 1 - s]? with
 | some st =>
  match Option.map (fun v => (Res.val v, st)) (ldA Tryd.prog st 3 v_9) with
  | some (Res.val v', snd) => (AV.int .i64 n_1).beq v'
  | x => false
 | none => false else true) && true) = true then none else none) fun v st => none else bif n == 4 then (nilCheckA w0).bind fun v_5 => (ptrAdd 0 v_5).bind fun v_6 => (nilCheckA e1).bind fun v_7 => (ptrAdd 1 v_7).bind fun v_8 => (readA st v_8 1 false).bind fun v_9 => (intV IntKind.i64 v_9).bind fun n_1 => callB (cw 33 [AV.int .i64 n_1] st) (fun v_10 st => (strV v_10).bind fun s => callB (cw 32 [v_6, AV.str s] st) (fun v_11 st => (leaveA Tryd.prog (callDA Tryd.prog trydhints (cw) (runW Tryd.prog trydhints)) Tryd.f16 [(0, w0), (1, e1), (87, AV.int .i64 n), (88, AV.bool false), (119, AV.bool false), (132, AV.bool false), (145, AV.bool false), (163, AV.bool false), (187, AV.bool false), (213, AV.bool true)] [(31, [v, AV.int .u8 41] ++ [])] AMode.ret st).bind fun o => outL false base o.fst o.snd) fun v_11 st => (leaveA Tryd.prog (callDA Tryd.prog trydhints (cw) (runW Tryd.prog trydhints)) Tryd.f16 (List.filter (fun p => !(some 215 == some p.fst || (some 216 == some p.fst || (some 217 == some p.fst || (some 218 == some p.fst || (some 219 == some p.fst || (some 220 == some p.fst || (some 221 == some p.fst || (some 222 == some p.fst || (some 223 == some p.fst || false)))))))))) [(0, w0), (1, e1), (87, AV.int .i64 n), (88, AV.bool false), (119, AV.bool false), (132, AV.bool false), (145, AV.bool false), (163, AV.bool false), (187, AV.bool false), (213, AV.bool true)]) [(31, [v, AV.int .u8 41] ++ [])] (AMode.pan v_11) st).bind fun o => outL false base o.fst o.snd) fun v_10 st => (leaveA Tryd.prog (callDA Tryd.prog trydhints (cw) (runW Tryd.prog trydhints)) Tryd.f16 (List.filter (fun p => !(some 215 == some p.fst || (some 216 == some p.fst || (some 217 == some p.fst || (some 218 == some p.fst || (some 219 == some p.fst || (some 220 == some p.fst || (some 221 == some p.fst || (some 222 == some p.fst || (some 223 == some p.fst || false)))))))))) [(0, w0), (1, e1), (87, AV.int .i64 n), (88, AV.bool false), (119, AV.bool false), (132, AV.bool false), (145, AV.bool false), (163, AV.bool false), (187, AV.bool false), (213, AV.bool true)]) [(31, [v, AV.int .u8 41] ++ [])] (AMode.pan v_10) st).bind fun o => outL false base o.fst o.snd else bif n == 5 then (nilCheckA e1).bind fun v_5 => (ptrAdd 2 v_5).bind fun v_6 => (readA st v_6 1 false).bind fun v_7 => (strV v_7).bind fun s => callB (cw 34 [w0, AV.str s] st) (fun v_8 st => (leaveA Tryd.prog (callDA Tryd.prog trydhints (cw) (runW Tryd.prog trydhints)) Tryd.f16 [(0, w0), (1, e1), (87, AV.int .i64 n), (88, AV.bool false), (119, AV.bool false), (132, AV.bool false), (145, AV.bool false), (163, AV.bool false), (187, AV.bool false), (213, AV.bool false), (224, AV.bool true)] [(31, [v, AV.int .u8 41] ++ [])] AMode.ret st).bind fun o => outL false base o.fst o.snd) fun v_8 st => (leaveA Tryd.prog (callDA Tryd.prog trydhints (cw) (runW Tryd.prog trydhints)) Tryd.f16 [(0, w0), (1, e1), (87, AV.int .i64 n), (88, AV.bool false), (119, AV.bool false), (132, AV.bool false), (145, AV.bool false), (163, AV.bool false), (187, AV.bool false), (213, AV.bool false), (224, AV.bool true)] [(31, [v, AV.int .u8 41] ++ [])] (AMode.pan v_8) st).bind fun o => outL false base o.fst o.snd else bif n == 6 then (nilCheckA w0).bind fun v_5 => (ptrAdd 0 v_5).bind fun v_6 => (nilCheckA e1).bind fun v_7 => (ptrAdd 2 v_7).bind fun v_8 => (readA st v_8 1 false).bind fun v_9 => (strV v_9).bind fun s => callB (cw 32 [v_6, AV.str s] st) (fun v_10 st => (leaveA Tryd.prog (callDA Tryd.prog trydhints (cw) (runW Tryd.prog trydhints)) Tryd.f16 [(0, w0), (1, e1), (87, AV.int .i64 n), (88, AV.bool false), (119, AV.bool false), (132, AV.bool false), (145, AV.bool false), (163, AV.bool false), (187, AV.bool false), (213, AV.bool false), (224, AV.bool false), (232, AV.bool true)] [(31, [v, AV.int .u8 41] ++ [])] AMode.ret st).bind fun o => outL false base o.fst o.snd) fun v_10 st => (leaveA Tryd.prog (callDA Tryd.prog trydhints (cw) (runW Tryd.prog trydhints)) Tryd.f16 (List.filter (fun p => !(some 234 == some p.fst || (some 235 == some p.fst || (some 236 == some p.fst || (some 237 == some p.fst || (some 238 == some p.fst || (some 239 == some p.fst || (some 240 == some p.fst || (some 241 == some p.fst || false))))))))) [(0, w0), (1, e1), (87, AV.int .i64 n), (88, AV.bool false), (119, AV.bool false), (132, AV.bool false), (145, AV.bool false), (163, AV.bool false), (187, AV.bool false), (213, AV.bool false), (224, AV.bool false), (232, AV.bool true)]) [(31, [v, AV.int .u8 41] ++ [])] (AMode.pan v_10) st).bind fun o => outL false base o.fst o.snd else bif n == 1 then (nilCheckA w0).bind fun v_5 => (ptrAdd 0 v_5).bind fun v_6 => callB (cw 32 [v_6, AV.str [UInt8.ofNat 110, UInt8.ofNat 117, UInt8.ofNat 108, UInt8.ofNat 108]] st) (fun v_7 st => (leaveA Tryd.prog (callDA Tryd.prog trydhints (cw) (runW Tryd.prog trydhints)) Tryd.f16 [(0, w0), (1, e1), (87, AV.int .i64 n), (88, AV.bool false), (119, AV.bool false), (132, AV.bool false), (145, AV.bool false), (163, AV.bool false), (187, AV.bool false), (213, AV.bool false), (224, AV.bool false), (232, AV.bool false), (242, AV.bool true)] [(31, [v, AV.int .u8 41] ++ [])] AMode.ret st).bind fun o => outL false base o.fst o.snd) fun v_7 st => (leaveA Tryd.prog (callDA Tryd.prog trydhints (cw) (runW Tryd.prog trydhints)) Tryd.f16 [(0, w0), (1, e1), (87, AV.int .i64 n), (88, AV.bool false), (119, AV.bool false), (132, AV.bool false), (145, AV.bool false), (163, AV.bool false), (187, AV.bool false), (213, AV.bool false), (224, AV.bool false), (232, AV.bool false), (242, AV.bool true)] [(31, [v, AV.int .u8 41] ++ [])] (AMode.pan v_7) st).bind fun o => outL false base o.fst o.snd else bif n == 2 then (nilCheckA w0).bind fun v_5 => (ptrAdd 0 v_5).bind fun v_6 => callB (cw 32 [v_6, AV.str [UInt8.ofNat 102, UInt8.ofNat 97, UInt8.ofNat 108, UInt8.ofNat 115, UInt8.ofNat 101]] st) (fun v_7 st => (leaveA Tryd.prog (callDA Tryd.prog trydhints (cw) (runW Tryd.prog trydhints)) Tryd.f16 [(0, w0), (1, e1), (87, AV.int .i64 n), (88, AV.bool false), (119, AV.bool false), (132, AV.bool false), (145, AV.bool false), (163, AV.bool false), (187, AV.bool false), (213, AV.bool false), (224, AV.bool false), (232, AV.bool false), (242, AV.bool false), (248, AV.bool true)] [(31, [v, AV.int .u8 41] ++ [])] AMode.ret st).bind fun o => outL false base o.fst o.snd) fun v_7 st => (leaveA Tryd.prog (callDA Tryd.prog trydhints (cw) (runW Tryd.prog trydhints)) Tryd.f16 [(0, w0), (1, e1), (87, AV.int .i64 n), (88, AV.bool false), (119, AV.bool false), (132, AV.bool false), (145, AV.bool false), (163, AV.bool false), (187, AV.bool false), (213, AV.bool false), (224, AV.bool false), (232, AV.bool false), (242, AV.bool false), (248, AV.bool true)] [(31, [v, AV.int .u8 41] ++ [])] (AMode.pan v_7) st).bind fun o => outL false base o.fst o.snd else bif n == 3 then (nilCheckA w0).bind fun v_5 => (ptrAdd 0 v_5).bind fun v_6 => callB (cw 32 [v_6, AV.str [UInt8.ofNat 116, UInt8.ofNat 114, UInt8.ofNat 117, UInt8.ofNat 101]] st) (fun v_7 st => (leaveA Tryd.prog (callDA Tryd.prog trydhints (cw) (runW Tryd.prog trydhints)) Tryd.f16 [(0, w0), (1, e1), (87, AV.int .i64 n), (88, AV.bool false), (119, AV.bool false), (132, AV.bool false), (145, AV.bool false), (163, AV.bool false), (187, AV.bool false), (213, AV.bool false), (224, AV.bool false), (232, AV.bool false), (242, AV.bool false), (248, AV.bool false), (254, AV.bool true)] [(31, [v, AV.int .u8 41] ++ [])] AMode.ret st).bind fun o => outL false base o.fst o.snd) fun v_7 st => (leaveA Tryd.prog (callDA Tryd.prog trydhints (cw) (runW Tryd.prog trydhints)) Tryd.f16 [(0, w0), (1, e1), (87, AV.int .i64 n), (88, AV.bool false), (119, AV.bool false), (132, AV.bool false), (145, AV.bool false), (163, AV.bool false), (187, AV.bool false), (213, AV.bool false), (224, AV.bool false), (232, AV.bool false), (242, AV.bool false), (248, AV.bool false), (254, AV.bool true)] [(31, [v, AV.int .u8 41] ++ [])] (AMode.pan v_7) st).bind fun o => outL false base o.fst o.snd else (leaveA Tryd.prog (callDA Tryd.prog trydhints (cw) (runW Tryd.prog trydhints)) Tryd.f16 [(0, w0), (1, e1), (87, AV.int .i64 n), (88, AV.bool false), (119, AV.bool false), (132, AV.bool false), (145, AV.bool false), (163, AV.bool false), (187, AV.bool false), (213, AV.bool false), (224, AV.bool false), (232, AV.bool false), (242, AV.bool false), (248, AV.bool false), (254, AV.bool false)] [(31, [v, AV.int .u8 41] ++ [])] AMode.ret st).bind fun o => outL false base o.fst o.snd) fun v st => outL false base (AOut.pan v) st else (strA BinOp.neq op7 []).bind fun v => (boolV v).bind fun b => bif b then (nilCheckA e1).bind fun v => (ptrAdd 3 v).bind fun v => (readA st v 1 false).bind fun v => (idxSl st 4 v 0).bind fun v => callB (cw 16 [w0, v, AV.int .i64 12] st) (fun v st => (nilCheckA w0).bind fun v => (ptrAdd 0 v).bind fun v => (strA BinOp.add [UInt8.ofNat 32] op7).bind fun v_1 => (strV v_1).bind fun s => (strA BinOp.add s [UInt8.ofNat 32]).bind fun v_2 => (strV v_2).bind fun s => callB (cw 32 [v, AV.str s] st) (fun v st => (nilCheckA e1).bind fun v => (ptrAdd 3 v).bind fun v => (readA st v 1 false).bind fun v => (idxSl st 4 v 1).bind fun v => callB (cw 16 [w0, v, AV.int .i64 13] st) (fun v st => outL false base (AOut.ret (AV.tup [])) st) fun v st => outL false base (AOut.pan v) st) fun v st => outL false base (AOut.pan v) st) fun v st => outL false base (AOut.pan v) st else (nilCheckA e1).bind fun v => (ptrAdd 0 v).bind fun v => (readA st v 1 false).bind fun v => (intV IntKind.i64 v).bind fun n => bif n == 31 then (nilCheckA e1).bind fun v => (ptrAdd 3 v).bind fun v => (readA st v 1 false).bind fun v => (idxSl st 4 v 0).bind fun v => callB (cw 16 [w0, v, AV.int .i64 1] st) (fun v st => (nilCheckA w0).bind fun v => (ptrAdd 0 v).bind fun v => callB (cw 32 [v, AV.str [UInt8.ofNat 32, UInt8.ofNat 63, UInt8.ofNat 32]] st) (fun v st => (nilCheckA e1).bind fun v => (ptrAdd 3 v).bind fun v => (readA st v 1 false).bind fun v => (idxSl st 4 v 1).bind fun v => callB (cw 16 [w0, v, AV.int .i64 0] st) (fun v st => (nilCheckA w0).bind fun v => (ptrAdd 0 v).bind fun v => callB (cw 32 [v, AV.str [UInt8.ofNat 32, UInt8.ofNat 58, UInt8.ofNat 32]] st) (fun v st => (nilCheckA e1).bind fun v => (ptrAdd 3 v).bind fun v => (readA st v 1 false).bind fun v => (idxSl st 4 v 2).bind fun v => callB (cw 16 [w0, v, AV.int .i64 0] st) (fun v st => outL false base (AOut.ret (AV.tup [])) st) fun v st => outL false base (AOut.pan v) st) fun v st => outL false base (AOut.pan v) st) fun v st => outL false base (AOut.pan v) st) fun v st => outL false base (AOut.pan v) st) fun v st => outL false base (AOut.pan v) st else bif n == 10 then (nilCheckA w0).bind fun v => (ptrAdd 0 v).bind fun v => callB (cw 31 [v, AV.int .u8 45] st) (fun v st => (nilCheckA e1).bind fun v => (ptrAdd 3 v).bind fun v => (readA st v 1 false).bind fun v => (idxSl st 4 v 0).bind fun v => callB (cw 16 [w0, v, AV.int .i64 12] st) (fun v st => outL false base (AOut.ret (AV.tup [])) st) fun v st => outL false base (AOut.pan v) st) fun v st => outL false base (AOut.pan v) st else bif n == 11 then (nilCheckA w0).bind fun v => (ptrAdd 0 v).bind fun v => callB (cw 31 [v, AV.int .u8 33] st) (fun v st => (nilCheckA e1).bind fun v => (ptrAdd 3 v).bind fun v => (readA st v 1 false).bind fun v => (idxSl st 4 v 0).bind fun v => callB (cw 16 [w0, v, AV.int .i64 12] st) (fun v st => outL false base (AOut.ret (AV.tup [])) st) fun v st => outL false base (AOut.pan v) st) fun v st => outL false base (AOut.pan v) st else bif n == 7 then (nilCheckA e1).bind fun v => (ptrAdd 3 v).bind fun v => (readA st v 1 false).bind fun v => (idxSl st 4 v 0).bind fun v => callB (cw 16 [w0, v, AV.int .i64 13] st) (fun v st => (nilCheckA w0).bind fun v => (ptrAdd 0 v).bind fun v => (nilCheckA e1).bind fun v_1 => (ptrAdd 2 v_1).bind fun v_2 => (readA st v_2 1 false).bind fun v_3 => (strV v_3).bind fun s => (strA BinOp.add [UInt8.ofNat 46] s).bind fun v_4 => (strV v_4).bind fun s => callB (cw 32 [v, AV.str s] st) (fun v st => outL false base (AOut.ret (AV.tup [])) st) fun v st => outL false base (AOut.pan v) st) fun v st => outL false base (AOut.pan v) st else bif n == 8 then (nilCheckA e1).bind fun v => (ptrAdd 3 v).bind fun v => (readA st v 1 false).bind fun v => (idxSl st 4 v 0).bind fun v => callB (cw 16 [w0, v, AV.int .i64 13] st) (fun v st => (nilCheckA w0).bind fun v => (ptrAdd 0 v).bind fun v => callB (cw 31 [v, AV.int .u8 91] st) (fun v st => (nilCheckA e1).bind fun v => (ptrAdd 3 v).bind fun v => (readA st v 1 false).bind fun v => (idxSl st 4 v 1).bind fun v => callB (cw 16 [w0, v, AV.int .i64 0] st) (fun v st => (nilCheckA w0).bind fun v => (ptrAdd 0 v).bind fun v => callB (cw 31 [v, AV.int .u8 93] st) (fun v st => outL false base (AOut.ret (AV.tup [])) st) fun v st => outL false base (AOut.pan v) st) fun v st => outL false base (AOut.pan v) st) fun v st => outL false base (AOut.pan v) st) fun v st => outL false base (AOut.pan v) st else bif n == 9 then (nilCheckA w0).bind fun v => (ptrAdd 0 v).bind fun v_1 => callB (cw 25 [] st) (fun v_2 st_1 => (nilCheckA e1).bind fun v_3 => (ptrAdd 1 v_3).bind fun v_4 => (readA st_1 v_4 1 false).bind fun v_5 => (intV IntKind.i64 v_5).bind fun n_1 => (natA (AV.int .i64 (IntKind.i64.wrap (n_1 - 1)))).bind fun j => (idxSl st_1 1 v_2 j).bind fun v_6 => (readA st_1 v_6 1 false).bind fun v_7 => (strV v_7).bind fun s => (strA BinOp.add s [UInt8.ofNat 40]).bind fun v_8 => (strV v_8).bind fun s_1 => callB (cw 32 [v_1, AV.str s_1] st_1) (fun v_9 st_2 => if ((if isIp v_4 = true then true else (List.range.loop [st_2, st_1, st].length []).all fun s => if 0 ≤ s ∧ s ≤ 1 then
 match [st_2, st_1, st][[st_2, st_1, st].length - 1 - s]? with
 | some st =>
  match Option.map (fun v => (Res.val v, st)) (ldA Tryd.prog st 3 v_4) with
  | some (Res.val v', snd) => (AV.int .i64 n_1).beq v'
  | x => false
 | none => false else true) && true) = true then (nilCheckA e1).bind fun v => (ptrAdd 3 v).bind fun v => (readA st_2 v 1 false).bind fun v => (idxSl st_2 4 v 0).bind fun v => callB (cw 16 [w0, v, AV.int .i64 0] st_2) (fun v st => (nilCheckA w0).bind fun v => (ptrAdd 0 v).bind fun v => callB (cw 31 [v, AV.int .u8 41] st) (fun v st => outL false base (AOut.ret (AV.tup [])) st) fun v st => outL false base (AOut.pan v) st) fun v st => outL false base (AOut.pan v) st else none) fun v_9 st_2 => if ((if isIp v_4 = true then true else (List.range.loop [st_1, st].length []).all fun s => if 0 ≤ s ∧ s ≤ 1 then
 match [st_1, st][[st_1, st].length - 1 - s]? with
 | some st =>
  match Option.map (fun v => (Res.val v, st)) (ldA Tryd.prog st 3 v_4) with
  | some (Res.val v', snd) => (AV.int .i64 n_1).beq v'
  | x => false
 | none => false else true) && true) = true then none else none) fun v st => none else bif n == 4 then (nilCheckA w0).bind fun v => (ptrAdd 0 v).bind fun v => (nilCheckA e1).bind fun v_1 => (ptrAdd 1 v_1).bind fun v_2 => (readA st v_2 1 false).bind fun v_3 => (intV IntKind.i64 v_3).bind fun n => callB (cw 33 [AV.int .i64 n] st) (fun v_4 st => (strV v_4).bind fun s => callB (cw 32 [v, AV.str s] st) (fun v st => outL false base (AOut.ret (AV.tup [])) st) fun v st => outL false base (AOut.pan v) st) fun v st => outL false base (AOut.pan v) st else bif n == 5 then (nilCheckA e1).bind fun v => (ptrAdd 2 v).bind fun v => (readA st v 1 false).bind fun v => (strV v).bind fun s => callB (cw 34 [w0, AV.str s] st) (fun v st => outL false base (AOut.ret (AV.tup [])) st) fun v st => outL false base (AOut.pan v) st else bif n == 6 then (nilCheckA w0).bind fun v => (ptrAdd 0 v).bind fun v => (nilCheckA e1).bind fun v_1 => (ptrAdd 2 v_1).bind fun v_2 => (readA st v_2 1 false).bind fun v_3 => (strV v_3).bind fun s => callB (cw 32 [v, AV.str s] st) (fun v st => outL false base (AOut.ret (AV.tup [])) st) fun v st => outL false base (AOut.pan v) st else bif n == 1 then (nilCheckA w0).bind fun v => (ptrAdd 0 v).bind fun v => callB (cw 32 [v, AV.str [UInt8.ofNat 110, UInt8.ofNat 117, UInt8.ofNat 108, UInt8.ofNat 108]] st) (fun v st => outL false base (AOut.ret (AV.tup [])) st) fun v st => outL false base (AOut.pan v) st else bif n == 2 then (nilCheckA w0).bind fun v => (ptrAdd 0 v).bind fun v => callB (cw 32 [v, AV.str [UInt8.ofNat 102, UInt8.ofNat 97, UInt8.ofNat 108, UInt8.ofNat 115, UInt8.ofNat 101]] st) (fun v st => outL false base (AOut.ret (AV.tup [])) st) fun v st => outL false base (AOut.pan v) st else bif n == 3 then (nilCheckA w0).bind fun v => (ptrAdd 0 v).bind fun v => callB (cw 32 [v, AV.str [UInt8.ofNat 116, UInt8.ofNat 114, UInt8.ofNat 117, UInt8.ofNat 101]] st) (fun v st => outL false base (AOut.ret (AV.tup [])) st) fun v st => outL false base (AOut.pan v) st else outL false base (AOut.ret (AV.tup [])) st else bif decide (level6 < least2) then (nilCheckA w0).bind fun v => (ptrAdd 0 v).bind fun v => callB (cw 31 [v, AV.int .u8 40] st) (fun v st => (nilCheckA w0).bind fun v => (ptrAdd 0 v).bind fun v => (strA BinOp.neq op7 []).bind fun v_1 => (boolV v_1).bind fun b => bif b then (nilCheckA e1).bind fun v_2 => (ptrAdd 3 v_2).bind fun v_3 => (readA st v_3 1 false).bind fun v_4 => (idxSl st 4 v_4 0).bind fun v_5 => callB (cw 16 [w0, v_5, AV.int .i64 level6] st) (fun v_6 st => (nilCheckA w0).bind fun v_7 => (ptrAdd 0 v_7).bind fun v_8 => (strA BinOp.add [UInt8.ofNat 32] op7).bind fun v_9 => (strV v_9).bind fun s => (strA BinOp.add s [UInt8.ofNat 32]).bind fun v_10 => (strV v_10).bind fun s => callB (cw 32 [v_8, AV.str s] st) (fun v_11 st => (nilCheckA e1).bind fun v_12 => (ptrAdd 3 v_12).bind fun v_13 => (readA st v_13 1 false).bind fun v_14 => (idxSl st 4 v_14 1).bind fun v_15 => callB (cw 16 [w0, v_15, AV.int .i64 (IntKind.i64.wrap (level6 + 1))] st) (fun v_16 st => (leaveA Tryd.prog (callDA Tryd.prog trydhints (cw) (runW Tryd.prog trydhints)) Tryd.f16 [(0, w0), (1, e1), (6, AV.int .i64 level6), (7, AV.str op7), (57, AV.bool true)] [(31, [v, AV.int .u8 41] ++ [])] AMode.ret st).bind fun o => outL false base o.fst o.snd) fun v_16 st => (leaveA Tryd.prog (callDA Tryd.prog trydhints (cw) (runW Tryd.prog trydhints)) Tryd.f16 [(0, w0), (1, e1), (6, AV.int .i64 level6), (7, AV.str op7), (57, AV.bool true)] [(31, [v, AV.int .u8 41] ++ [])] (AMode.pan v_16) st).bind fun o => outL false base o.fst o.snd) fun v_11 st => (leaveA Tryd.prog (callDA Tryd.prog trydhints (cw) (runW Tryd.prog trydhints)) Tryd.f16 [(0, w0), (1, e1), (6, AV.int .i64 level6), (7, AV.str op7), (57, AV.bool true)] [(31, [v, AV.int .u8 41] ++ [])] (AMode.pan v_11) st).bind fun o => outL false base o.fst o.snd) fun v_6 st => (leaveA Tryd.prog (callDA Tryd.prog trydhints (cw) (runW Tryd.prog trydhints)) Tryd.f16 [(0, w0), (1, e1), (6, AV.int .i64 level6), (7, AV.str op7), (57, AV.bool true)] [(31, [v, AV.int .u8 41] ++ [])] (AMode.pan v_6) st).bind fun o => outL false base o.fst o.snd else (nilCheckA e1).bind fun v_2 => (ptrAdd 0 v_2).bind fun v_3 => (readA st v_3 1 false).bind fun v_4 => (intV IntKind.i64 v_4).bind fun n => bif n == 31 then (nilCheckA e1).bind fun v_5 => (ptrAdd 3 v_5).bind fun v_6 => (readA st v_6 1 false).bind fun v_7 => (idxSl st 4 v_7 0).bind fun v_8 => callB (cw 16 [w0, v_8, AV.int .i64 1] st) (fun v_9 st => (nilCheckA w0).bind fun v_10 => (ptrAdd 0 v_10).bind fun v_11 => callB (cw 32 [v_11, AV.str [UInt8.ofNat 32, UInt8.ofNat 63, UInt8.ofNat 32]] st) (fun v_12 st => (nilCheckA e1).bind fun v_13 => (ptrAdd 3 v_13).bind fun v_14 => (readA st v_14 1 false).bind fun v_15 => (idxSl st 4 v_15 1).bind fun v_16 => callB (cw 16 [w0, v_16, AV.int .i64 0] st) (fun v_17 st => (nilCheckA w0).bind fun v_18 => (ptrAdd 0 v_18).bind fun v_19 => callB (cw 32 [v_19, AV.str [UInt8.ofNat 32, UInt8.ofNat 58, UInt8.ofNat 32]] st) (fun v_20 st => (nilCheckA e1).bind fun v_21 => (ptrAdd 3 v_21).bind fun v_22 => (readA st v_22 1 false).bind fun v_23 => (idxSl st 4 v_23 2).bind fun v_24 => callB (cw 16 [w0, v_24, AV.int .i64 0] st) (fun v_25 st => (leaveA Tryd.prog (callDA Tryd.prog trydhints (cw) (runW Tryd.prog trydhints)) Tryd.f16 [(0, w0), (1, e1), (87, AV.int .i64 n), (88, AV.bool true)] [(31, [v, AV.int .u8 41] ++ [])] AMode.ret st).bind fun o => outL false base o.fst o.snd) fun v_25 st => (leaveA Tryd.prog (callDA Tryd.prog trydhints (cw) (runW Tryd.prog trydhints)) Tryd.f16 [(0, w0), (1, e1), (87, AV.int .i64 n), (88, AV.bool true)] [(31, [v, AV.int .u8 41] ++ [])] (AMode.pan v_25) st).bind fun o => outL false base o.fst o.snd) fun v_20 st => (leaveA Tryd.prog (callDA Tryd.prog trydhints (cw) (runW Tryd.prog trydhints)) Tryd.f16 [(0, w0), (1, e1), (87, AV.int .i64 n), (88, AV.bool true)] [(31, [v, AV.int .u8 41] ++ [])] (AMode.pan v_20) st).bind fun o => outL false base o.fst o.snd) fun v_17 st => (leaveA Tryd.prog (callDA Tryd.prog trydhints (cw) (runW Tryd.prog trydhints)) Tryd.f16 [(0, w0), (1, e1), (87, AV.int .i64 n), (88, AV.bool true)] [(31, [v, AV.int .u8 41] ++ [])] (AMode.pan v_17) st).bind fun o => outL false base o.fst o.snd) fun v_12 st => (leaveA Tryd.prog (callDA Tryd.prog trydhints (cw) (runW Tryd.prog trydhints)) Tryd.f16 [(0, w0), (1, e1), (87, AV.int .i64 n), (88, AV.bool true)] [(31, [v, AV.int .u8 41] ++ [])] (AMode.pan v_12) st).bind fun o => outL false base o.fst o.snd) fun v_9 st => (leaveA Tryd.prog (callDA Tryd.prog trydhints (cw) (runW Tryd.prog trydhints)) Tryd.f16 [(0, w0), (1, e1), (87, AV.int .i64 n), (88, AV.bool true)] [(31, [v, AV.int .u8 41] ++ [])] (AMode.pan v_9) st).bind fun o => outL false base o.fst o.snd else bif n == 10 then (nilCheckA w0).bind fun v_5 => (ptrAdd 0 v_5).bind fun v_6 => callB (cw 31 [v_6, AV.int .u8 45] st) (fun v_7 st => (nilCheckA e1).bind fun v_8 => (ptrAdd 3 v_8).bind fun v_9 => (readA st v_9 1 false).bind fun v_10 => (idxSl st 4 v_10 0).bind fun v_11 => callB (cw 16 [w0, v_11, AV.int .i64 12] st) (fun v_12 st => (leaveA Tryd.prog (callDA Tryd.prog trydhints (cw) (runW Tryd.prog trydhints)) Tryd.f16 [(0, w0), (1, e1), (87, AV.int .i64 n), (88, AV.bool false), (119, AV.bool true)] [(31, [v, AV.int .u8 41] ++ [])] AMode.ret st).bind fun o => outL false base o.fst o.snd) fun v_12 st => (leaveA Tryd.prog (callDA Tryd.prog trydhints (cw) (runW Tryd.prog trydhints)) Tryd.f16 [(0, w0), (1, e1), (87, AV.int .i64 n), (88, AV.bool false), (119, AV.bool true)] [(31, [v, AV.int .u8 41] ++ [])] (AMode.pan v_12) st).bind fun o => outL false base o.fst o.snd) fun v_7 st => (leaveA Tryd.prog (callDA Tryd.prog trydhints (cw) (runW Tryd.prog trydhints)) Tryd.f16 [(0, w0), (1, e1), (87, AV.int .i64 n), (88, AV.bool false), (119, AV.bool true)] [(31, [v, AV.int .u8 41] ++ [])] (AMode.pan v_7) st).bind fun o => outL false base o.fst o.snd else bif n == 11 then (nilCheckA w0).bind fun v_5 => (ptrAdd 0 v_5).bind fun v_6 => callB (cw 31 [v_6, AV.int .u8 33] st) (fun v_7 st => (nilCheckA e1).bind fun v_8 => (ptrAdd 3 v_8).bind fun v_9 => (readA st v_9 1 false).bind fun v_10 => (idxSl st 4 v_10 0).bind fun v_11 => callB (cw 16 [w0, v_11, AV.int .i64 12] st) (fun v_12 st => (leaveA Tryd.prog (callDA Tryd.prog trydhints (cw) (runW Tryd.prog trydhints)) Tryd.f16 [(0, w0), (1, e1), (87, AV.int .i64 n), (88, AV.bool false), (119, AV.bool false), (132, AV.bool true)] [(31, [v, AV.int .u8 41] ++ [])] AMode.ret st).bind fun o => outL false base o.fst o.snd) fun v_12 st => (leaveA Tryd.prog (callDA Tryd.prog trydhints (cw) (runW Tryd.prog trydhints)) Tryd.f16 [(0, w0), (1, e1), (87, AV.int .i64 n), (88, AV.bool false), (119, AV.bool false), (132, AV.bool true)] [(31, [v, AV.int .u8 41] ++ [])] (AMode.pan v_12) st).bind fun o => outL false base o.fst o.snd) fun v_7 st => (leaveA Tryd.prog (callDA Tryd.prog trydhints (cw) (runW Tryd.prog trydhints)) Tryd.f16 [(0, w0), (1, e1), (87, AV.int .i64 n), (88, AV.bool false), (119, AV.bool false), (132, AV.bool true)] [(31, [v, AV.int .u8 41] ++ [])] (AMode.pan v_7) st).bind fun o => outL false base o.fst o.snd else bif n == 7 then (nilCheckA e1).bind fun v_5 => (ptrAdd 3 v_5).bind fun v_6 => (readA st v_6 1 false).bind fun v_7 => (idxSl st 4 v_7 0).bind fun v_8 => callB (cw 16 [w0, v_8, AV.int .i64 13] st) (fun v_9 st => (nilCheckA w0).bind fun v_10 => (ptrAdd 0 v_10).bind fun v_11 => (nilCheckA e1).bind fun v_12 => (ptrAdd 2 v_12).bind fun v_13 => (readA st v_13 1 false).bind fun v_14 => (strV v_14).bind fun s => (strA BinOp.add [UInt8.ofNat 46] s).bind fun v_15 => (strV v_15).bind fun s => callB (cw 32 [v_11, AV.str s] st) (fun v_16 st => (leaveA Tryd.prog (callDA Tryd.prog trydhints (cw) (runW Tryd.prog trydhints)) Tryd.f16 [(0, w0), (1, e1), (87, AV.int .i64 n), (88, AV.bool false), (119, AV.bool false), (132, AV.bool false), (145, AV.bool true)] [(31, [v, AV.int .u8 41] ++ [])] AMode.ret st).bind fun o => outL false base o.fst o.snd) fun v_16 st => (leaveA Tryd.prog (callDA Tryd.prog trydhints (cw) (runW Tryd.prog trydhints)) Tryd.f16 (List.filter (fun p => !(some 154 == some p.fst || (some 155 == some p.fst || (some 156 == some p.fst || (some 157 == some p.fst || (some 158 == some p.fst || (some 159 == some p.fst || (some 160 == some p.fst || (some 161 == some p.fst || (some 162 == some p.fst || false)))))))))) [(0, w0), (1, e1), (87, AV.int .i64 n), (88, AV.bool false), (119, AV.bool false), (132, AV.bool false), (145, AV.bool true)]) [(31, [v, AV.int .u8 41] ++ [])] (AMode.pan v_16) st).bind fun o => outL false base o.fst o.snd) fun v_9 st => (leaveA Tryd.prog (callDA Tryd.prog trydhints (cw) (runW Tryd.prog trydhints)) Tryd.f16 [(0, w0), (1, e1), (87, AV.int .i64 n), (88, AV.bool false), (119, AV.bool false), (132, AV.bool false), (145, AV.bool true)] [(31, [v, AV.int .u8 41] ++ [])] (AMode.pan v_9) st).bind fun o => outL false base o.fst o.snd else bif n == 8 then (nilCheckA e1).bind fun v_5 => (ptrAdd 3 v_5).bind fun v_6 => (readA st v_6 1 false).bind fun v_7 => (idxSl st 4 v_7 0).bind fun v_8 => callB (cw 16 [w0, v_8, AV.int .i64 13] st) (fun v_9 st => (nilCheckA w0).bind fun v_10 => (ptrAdd 0 v_10).bind fun v_11 => callB (cw 31 [v_11, AV.int .u8 91] st) (fun v_12 st => (nilCheckA e1).bind fun v_13 => (ptrAdd 3 v_13).bind fun v_14 => (readA st v_14 1 false).bind fun v_15 => (idxSl st 4 v_15 1).bind fun v_16 => callB (cw 16 [w0, v_16, AV.int .i64 0] st) (fun v_17 st => (nilCheckA w0).bind fun v_18 => (ptrAdd 0 v_18).bind fun v_19 => callB (cw 31 [v_19, AV.int .u8 93] st) (fun v_20 st => (leaveA Tryd.prog (callDA Tryd.prog trydhints (cw) (runW Tryd.prog trydhints)) Tryd.f16 [(0, w0), (1, e1), (87, AV.int .i64 n), (88, AV.bool false), (119, AV.bool false), (132, AV.bool false), (145, AV.bool false), (163, AV.bool true)] [(31, [v, AV.int .u8 41] ++ [])] AMode.ret st).bind fun o => outL false base o.fst o.snd) fun v_20 st => (leaveA Tryd.prog (callDA Tryd.prog trydhints (cw) (runW Tryd.prog trydhints)) Tryd.f16 [(0, w0), (1, e1), (87, AV.int .i64 n), (88, AV.bool false), (119, AV.bool false), (132, AV.bool false), (145, AV.bool false), (163, AV.bool true)] [(31, [v, AV.int .u8 41] ++ [])] (AMode.pan v_20) st).bind fun o => outL false base o.fst o.snd) fun v_17 st => (leaveA Tryd.prog (callDA Tryd.prog trydhints (cw) (runW Tryd.prog trydhints)) Tryd.f16 [(0, w0), (1, e1), (87, AV.int .i64 n), (88, AV.bool false), (119, AV.bool false), (132, AV.bool false), (145, AV.bool false), (163, AV.bool true)] [(31, [v, AV.int .u8 41] ++ [])] (AMode.pan v_17) st).bind fun o => outL false base o.fst o.snd) fun v_12 st => (leaveA Tryd.prog (callDA Tryd.prog trydhints (cw) (runW Tryd.prog trydhints)) Tryd.f16 [(0, w0), (1, e1), (87, AV.int .i64 n), (88, AV.bool false), (119, AV.bool false), (132, AV.bool false), (145, AV.bool false), (163, AV.bool true)] [(31, [v, AV.int .u8 41] ++ [])] (AMode.pan v_12) st).bind fun o => outL false base o.fst o.snd) fun v_9 st => (leaveA Tryd.prog (callDA Tryd.prog trydhints (cw) (runW Tryd.prog trydhints)) Tryd.f16 [(0, w0), (1, e1), (87, AV.int .i64 n), (88, AV.bool false), (119, AV.bool false), (132, AV.bool false), (145, AV.bool false), (163, AV.bool true)] [(31, [v, AV.int .u8 41] ++ [])] (AMode.pan v_9) st).bind fun o => outL false base o.fst o.snd else bif n == 9 then (nilCheckA w0).bind fun v_5 => (ptrAdd 0 v_5).bind fun v_6 => callB (cw 25 [] st) (fun v_7 st_1 => (nilCheckA e1).bind fun v_8 => (ptrAdd 1 v_8).bind fun v_9 => (readA st_1 v_9 1 false).bind fun v_10 => (intV IntKind.i64 v_10).bind fun n_1 => (natA (AV.int .i64 (IntKind.i64.wrap (n_1 - 1)))).bind fun j => (idxSl st_1 1 v_7 j).bind fun v_11 => (readA st_1 v_11 1 false).bind fun v_12 => (strV v_12).bind fun s => (strA BinOp.add s [UInt8.ofNat 40]).bind fun v_13 => (strV v_13).bind fun s_1 => callB (cw 32 [v_6, AV.str s_1] st_1) (fun v_14 st_2 => if ((if isIp v_9 = true then true else (List.range.loop [st_2, st_1, st].length []).all fun s => if 0 ≤ s ∧ s ≤ 1 then
 match [st_2, st_1, st][[st_2, st_1, st].length - 1 - s]? with
 | some st =>
  match Option.map (fun v => (Res.val v, st)) (ldA Tryd.prog st 3 v_9) with
  | some (Res.val v', snd) => (AV.int .i64 n_1).beq v'
  | x => false
 | none => false else true) && true) = true then (nilCheckA e1).bind fun v_15 => (ptrAdd 3 v_15).bind fun v_16 => (readA st_2 v_16 1 false).bind fun v_17 => (idxSl st_2 4 v_17 0).bind fun v_18 => callB (cw 16 [w0, v_18, AV.int .i64 0] st_2) (fun v_19 st => (nilCheckA w0).bind fun v_20 => (ptrAdd 0 v_20).bind fun v_21 => callB (cw 31 [v_21, AV.int .u8 41] st) (fun v_22 st => (leaveA Tryd.prog (callDA Tryd.prog trydhints (cw) (runW Tryd.prog trydhints)) Tryd.f16 [(0, w0), (1, e1), (87, AV.int .i64 n), (88, AV.bool false), (119, AV.bool false), (132, AV.bool false), (145, AV.bool false), (163, AV.bool false), (187, AV.bool true)] [(31, [v, AV.int .u8 41] ++ [])] AMode.ret st).bind fun o => outL false base o.fst o.snd) fun v_22 st => (leaveA Tryd.prog (callDA Tryd.prog trydhints (cw) (runW Tryd.prog trydhints)) Tryd.f16 [(0, w0), (1, e1), (87, AV.int .i64 n), (88, AV.bool false), (119, AV.bool false), (132, AV.bool false), (145, AV.bool false), (163, AV.bool false), (187, AV.bool true)] [(31, [v, AV.int .u8 41] ++ [])] (AMode.pan v_22) st).bind fun o => outL false base o.fst o.snd) fun v_19 st => (leaveA Tryd.prog (callDA Tryd.prog trydhints (cw) (runW Tryd.prog trydhints)) Tryd.f16 [(0, w0), (1, e1), (87, AV.int .i64 n), (88, AV.bool false), (119, AV.bool false), (132, AV.bool false), (145, AV.bool false), (163, AV.bool false), (187, AV.bool true)] [(31, [v, AV.int .u8 41] ++ [])] (AMode.pan v_19) st).bind fun o => outL false base o.fst o.snd else none) fun v_14 st_2 => if ((if isIp v_9 = true then true else (List.range.loop [st_1, st].length []).all fun s => if 0 ≤ s ∧ s ≤ 1 then
 match [st_1, st][[st_1, st].length - 1 - s]? with
 | some st =>
  match Option.map (fun v => (Res.val v, st)) (ldA Tryd.prog st 3 v_9) with
  | some (Res.val v', snd) => (AV.int .i64 n_1).beq v'
  | x => false
 | none => false else true) && true) = true then none else none) fun v st => none else bif n == 4 then (nilCheckA w0).bind fun v_5 => (ptrAdd 0 v_5).bind fun v_6 => (nilCheckA e1).bind fun v_7 => (ptrAdd 1 v_7).bind fun v_8 => (readA st v_8 1 false).bind fun v_9 => (intV IntKind.i64 v_9).bind fun n_1 => callB (cw 33 [AV.int .i64 n_1] st) (fun v_10 st => (strV v_10).bind fun s => callB (cw 32 [v_6, AV.str s] st) (fun v_11 st => (leaveA Tryd.prog (callDA Tryd.prog trydhints (cw) (runW Tryd.prog trydhints)) Tryd.f16 [(0, w0), (1, e1), (87, AV.int .i64 n), (88, AV.bool false), (119, AV.bool false), (132, AV.bool false), (145, AV.bool false), (163, AV.bool false), (187, AV.bool false), (213, AV.bool true)] [(31, [v, AV.int .u8 41] ++ [])] AMode.ret st).bind fun o => outL false base o.fst o.snd) fun v_11 st => (leaveA Tryd.prog (callDA Tryd.prog trydhints (cw) (runW Tryd.prog trydhints)) Tryd.f16 (List.filter (fun p => !(some 215 == some p.fst || (some 216 == some p.fst || (some 217 == some p.fst || (some 218 == some p.fst || (some 219 == some p.fst || (some 220 == some p.fst || (some 221 == some p.fst || (some 222 == some p.fst || (some 223 == some p.fst || false)))))))))) [(0, w0), (1, e1), (87, AV.int .i64 n), (88, AV.bool false), (119, AV.bool false), (132, AV.bool false), (145, AV.bool false), (163, AV.bool false), (187, AV.bool false), (213, AV.bool true)]) [(31, [v, AV.int .u8 41] ++ [])] (AMode.pan v_11) st).bind fun o => outL false base o.fst o.snd) fun v_10 st => (leaveA Tryd.prog (callDA Tryd.prog trydhints (cw) (runW Tryd.prog trydhints)) Tryd.f16 (List.filter (fun p => !(some 215 == some p.fst || (some 216 == some p.fst || (some 217 == some p.fst || (some 218 == some p.fst || (some 219 == some p.fst || (some 220 == some p.fst || (some 221 == some p.fst || (some 222 == some p.fst || (some 223 == some p.fst || false)))))))))) [(0, w0), (1, e1), (87, AV.int .i64 n), (88, AV.bool false), (119, AV.bool false), (132, AV.bool false), (145, AV.bool false), (163, AV.bool false), (187, AV.bool false), (213, AV.bool true)]) [(31, [v, AV.int .u8 41] ++ [])] (AMode.pan v_10) st).bind fun o => outL false base o.fst o.snd else bif n == 5 then (nilCheckA e1).bind fun v_5 => (ptrAdd 2 v_5).bind fun v_6 => (readA st v_6 1 false).bind fun v_7 => (strV v_7).bind fun s => callB (cw 34 [w0, AV.str s] st) (fun v_8 st => (leaveA Tryd.prog (callDA Tryd.prog trydhints (cw) (runW Tryd.prog trydhints)) Tryd.f16 [(0, w0), (1, e1), (87, AV.int .i64 n), (88, AV.bool false), (119, AV.bool false), (132, AV.bool false), (145, AV.bool false), (163, AV.bool false), (187, AV.bool false), (213, AV.bool false), (224, AV.bool true)] [(31, [v, AV.int .u8 41] ++ [])] AMode.ret st).bind fun o => outL false base o.fst o.snd) fun v_8 st => (leaveA Tryd.prog (callDA Tryd.prog trydhints (cw) (runW Tryd.prog trydhints)) Tryd.f16 [(0, w0), (1, e1), (87, AV.int .i64 n), (88, AV.bool false), (119, AV.bool false), (132, AV.bool false), (145, AV.bool false), (163, AV.bool false), (187, AV.bool false), (213, AV.bool false), (224, AV.bool true)] [(31, [v, AV.int .u8 41] ++ [])] (AMode.pan v_8) st).bind fun o => outL false base o.fst o.snd else bif n == 6 then (nilCheckA w0).bind fun v_5 => (ptrAdd 0 v_5).bind fun v_6 => (nilCheckA e1).bind fun v_7 => (ptrAdd 2 v_7).bind fun v_8 => (readA st v_8 1 false).bind fun v_9 => (strV v_9).bind fun s => callB (cw 32 [v_6, AV.str s] st) (fun v_10 st => (leaveA Tryd.prog (callDA Tryd.prog trydhints (cw) (runW Tryd.prog trydhints)) Tryd.f16 [(0, w0), (1, e1), (87, AV.int .i64 n), (88, AV.bool false), (119, AV.bool false), (132, AV.bool false), (145, AV.bool false), (163, AV.bool false), (187, AV.bool false), (213, AV.bool false), (224, AV.bool false), (232, AV.bool true)] [(31, [v, AV.int .u8 41] ++ [])] AMode.ret st).bind fun o => outL false base o.fst o.snd) fun v_10 st => (leaveA Tryd.prog (callDA Tryd.prog trydhints (cw) (runW Tryd.prog trydhints)) Tryd.f16 (List.filter (fun p => !(some 234 == some p.fst || (some 235 == some p.fst || (some 236 == some p.fst || (some 237 == some p.fst || (some 238 == some p.fst || (some 239 == some p.fst || (some 240 == some p.fst || (some 241 == some p.fst || false))))))))) [(0, w0), (1, e1), (87, AV.int .i64 n), (88, AV.bool false), (119, AV.bool false), (132, AV.bool false), (145, AV.bool false), (163, AV.bool false), (187, AV.bool false), (213, AV.bool false), (224, AV.bool false), (232, AV.bool true)]) [(31, [v, AV.int .u8 41] ++ [])] (AMode.pan v_10) st).bind fun o => outL false base o.fst o.snd else bif n == 1 then (nilCheckA w0).bind fun v_5 => (ptrAdd 0 v_5).bind fun v_6 => callB (cw 32 [v_6, AV.str [UInt8.ofNat 110, UInt8.ofNat 117, UInt8.ofNat 108, UInt8.ofNat 108]] st) (fun v_7 st => (leaveA Tryd.prog (callDA Tryd.prog trydhints (cw) (runW Tryd.prog trydhints)) Tryd.f16 [(0, w0), (1, e1), (87, AV.int .i64 n), (88, AV.bool false), (119, AV.bool false), (132, AV.bool false), (145, AV.bool false), (163, AV.bool false), (187, AV.bool false), (213, AV.bool false), (224, AV.bool false), (232, AV.bool false), (242, AV.bool true)] [(31, [v, AV.int .u8 41] ++ [])] AMode.ret st).bind fun o => outL false base o.fst o.snd) fun v_7 st => (leaveA Tryd.prog (callDA Tryd.prog trydhints (cw) (runW Tryd.prog trydhints)) Tryd.f16 [(0, w0), (1, e1), (87, AV.int .i64 n), (88, AV.bool false), (119, AV.bool false), (132, AV.bool false), (145, AV.bool false), (163, AV.bool false), (187, AV.bool false), (213, AV.bool false), (224, AV.bool false), (232, AV.bool false), (242, AV.bool true)] [(31, [v, AV.int .u8 41] ++ [])] (AMode.pan v_7) st).bind fun o => outL false base o.fst o.snd else bif n == 2 then (nilCheckA w0).bind fun v_5 => (ptrAdd 0 v_5).bind fun v_6 => callB (cw 32 [v_6, AV.str [UInt8.ofNat 102, UInt8.ofNat 97, UInt8.ofNat 108, UInt8.ofNat 115, UInt8.ofNat 101]] st) (fun v_7 st => (leaveA Tryd.prog (callDA Tryd.prog trydhints (cw) (runW Tryd.prog trydhints)) Tryd.f16 [(0, w0), (1, e1), (87, AV.int .i64 n), (88, AV.bool false), (119, AV.bool false), (132, AV.bool false), (145, AV.bool false), (163, AV.bool false), (187, AV.bool false), (213, AV.bool false), (224, AV.bool false), (232, AV.bool false), (242, AV.bool false), (248, AV.bool true)] [(31, [v, AV.int .u8 41] ++ [])] AMode.ret st).bind fun o => outL false base o.fst o.snd) fun v_7 st => (leaveA Tryd.prog (callDA Tryd.prog trydhints (cw) (runW Tryd.prog trydhints)) Tryd.f16 [(0, w0), (1, e1), (87, AV.int .i64 n), (88, AV.bool false), (119, AV.bool false), (132, AV.bool false), (145, AV.bool false), (163, AV.bool false), (187, AV.bool false), (213, AV.bool false), (224, AV.bool false), (232, AV.bool false), (242, AV.bool false), (248, AV.bool true)] [(31, [v, AV.int .u8 41] ++ [])] (AMode.pan v_7) st).bind fun o => outL false base o.fst o.snd else bif n == 3 then (nilCheckA w0).bind fun v_5 => (ptrAdd 0 v_5).bind fun v_6 => callB (cw 32 [v_6, AV.str [UInt8.ofNat 116, UInt8.ofNat 114, UInt8.ofNat 117, UInt8.ofNat 101]] st) (fun v_7 st => (leaveA Tryd.prog (callDA Tryd.prog trydhints (cw) (runW Tryd.prog trydhints)) Tryd.f16 [(0, w0), (1, e1), (87, AV.int .i64 n), (88, AV.bool false), (119, AV.bool false), (132, AV.bool false), (145, AV.bool false), (163, AV.bool false), (187, AV.bool false), (213, AV.bool false), (224, AV.bool false), (232, AV.bool false), (242, AV.bool false), (248, AV.bool false), (254, AV.bool true)] [(31, [v, AV.int .u8 41] ++ [])] AMode.ret st).bind fun o => outL false base o.fst o.snd) fun v_7 st => (leaveA Tryd.prog (callDA Tryd.prog trydhints (cw) (runW Tryd.prog trydhints)) Tryd.f16 [(0, w0), (1, e1), (87, AV.int .i64 n), (88, AV.bool false), (119, AV.bool false), (132, AV.bool false), (145, AV.bool false), (163, AV.bool false), (187, AV.bool false), (213, AV.bool false), (224, AV.bool false), (232, AV.bool false), (242, AV.bool false), (248, AV.bool false), (254, AV.bool true)] [(31, [v, AV.int .u8 41] ++ [])] (AMode.pan v_7) st).bind fun o => outL false base o.fst o.snd else (leaveA Tryd.prog (callDA Tryd.prog trydhints (cw) (runW Tryd.prog trydhints)) Tryd.f16 [(0, w0), (1, e1), (87, AV.int .i64 n), (88, AV.bool false), (119, AV.bool false), (132, AV.bool false), (145, AV.bool false), (163, AV.bool false), (187, AV.bool false), (213, AV.bool false), (224, AV.bool false), (232, AV.bool false), (242, AV.bool false), (248, AV.bool false), (254, AV.bool false)] [(31, [v, AV.int .u8 41] ++ [])] AMode.ret st).bind fun o => outL false base o.fst o.snd) fun v st => outL false base (AOut.pan v) st else (strA BinOp.neq op7 []).bind fun v => (boolV v).bind fun b => bif b then (nilCheckA e1).bind fun v => (ptrAdd 3 v).bind fun v => (readA st v 1 false).bind fun v => (idxSl st 4 v 0).bind fun v => callB (cw 16 [w0, v, AV.int .i64 level6] st) (fun v st => (nilCheckA w0).bind fun v => (ptrAdd 0 v).bind fun v => (strA BinOp.add [UInt8.ofNat 32] op7).bind fun v_1 => (strV v_1).bind fun s => (strA BinOp.add s [UInt8.ofNat 32]).bind fun v_2 => (strV v_2).bind fun s => callB (cw 32 [v, AV.str s] st) (fun v st => (nilCheckA e1).bind fun v => (ptrAdd 3 v).bind fun v => (readA st v 1 false).bind fun v => (idxSl st 4 v 1).bind fun v => callB (cw 16 [w0, v, AV.int .i64 (IntKind.i64.wrap (level6 + 1))] st) (fun v st => outL false base (AOut.ret (AV.tup [])) st) fun v st => outL false base (AOut.pan v) st) fun v st => outL false base (AOut.pan v) st) fun v st => outL false base (AOut.pan v) st else (nilCheckA e1).bind fun v => (ptrAdd 0 v).bind fun v => (readA st v 1 false).bind fun v => (intV IntKind.i64 v).bind fun n => bif n == 31 then (nilCheckA e1).bind fun v => (ptrAdd 3 v).bind fun v => (readA st v 1 false).bind fun v => (idxSl st 4 v 0).bind fun v => callB (cw 16 [w0, v, AV.int .i64 1] st) (fun v st => (nilCheckA w0).bind fun v => (ptrAdd 0 v).bind fun v => callB (cw 32 [v, AV.str [UInt8.ofNat 32, UInt8.ofNat 63, UInt8.ofNat 32]] st) (fun v st => (nilCheckA e1).bind fun v => (ptrAdd 3 v).bind fun v => (readA st v 1 false).bind fun v => (idxSl st 4 v 1).bind fun v => callB (cw 16 [w0, v, AV.int .i64 0] st) (fun v st => (nilCheckA w0).bind fun v => (ptrAdd 0 v).bind fun v => callB (cw 32 [v, AV.str [UInt8.ofNat 32, UInt8.ofNat 58, UInt8.ofNat 32]] st) (fun v st => (nilCheckA e1).bind fun v => (ptrAdd 3 v).bind fun v => (readA st v 1 false).bind fun v => (idxSl st 4 v 2).bind fun v => callB (cw 16 [w0, v, AV.int .i64 0] st) (fun v st => outL false base (AOut.ret (AV.tup [])) st) fun v st => outL false base (AOut.pan v) st) fun v st => outL false base (AOut.pan v) st) fun v st => outL false base (AOut.pan v) st) fun v st => outL false base (AOut.pan v) st) fun v st => outL false base (AOut.pan v) st else bif n == 10 then (nilCheckA w0).bind fun v => (ptrAdd 0 v).bind fun v => callB (cw 31 [v, AV.int .u8 45] st) (fun v st => (nilCheckA e1).bind fun v => (ptrAdd 3 v).bind fun v => (readA st v 1 false).bind fun v => (idxSl st 4 v 0).bind fun v => callB (cw 16 [w0, v, AV.int .i64 12] st) (fun v st => outL false base (AOut.ret (AV.tup [])) st) fun v st => outL false base (AOut.pan v) st) fun v st => outL false base (AOut.pan v) st else bif n == 11 then (nilCheckA w0).bind fun v => (ptrAdd 0 v).bind fun v => callB (cw 31 [v, AV.int .u8 33] st) (fun v st => (nilCheckA e1).bind fun v => (ptrAdd 3 v).bind fun v => (readA st v 1 false).bind fun v => (idxSl st 4 v 0).bind fun v => callB (cw 16 [w0, v, AV.int .i64 12] st) (fun v st => outL false base (AOut.ret (AV.tup [])) st) fun v st => outL false base (AOut.pan v) st) fun v st => outL false base (AOut.pan v) st else bif n == 7 then (nilCheckA e1).bind fun v => (ptrAdd 3 v).bind fun v => (readA st v 1 false).bind fun v => (idxSl st 4 v 0).bind fun v => callB (cw 16 [w0, v, AV.int .i64 13] st) (fun v st => (nilCheckA w0).bind fun v => (ptrAdd 0 v).bind fun v => (nilCheckA e1).bind fun v_1 => (ptrAdd 2 v_1).bind fun v_2 => (readA st v_2 1 false).bind fun v_3 => (strV v_3).bind fun s => (strA BinOp.add [UInt8.ofNat 46] s).bind fun v_4 => (strV v_4).bind fun s => callB (cw 32 [v, AV.str s] st) (fun v st => outL false base (AOut.ret (AV.tup [])) st) fun v st => outL false base (AOut.pan v) st) fun v st => outL false base (AOut.pan v) st else bif n == 8 then (nilCheckA e1).bind fun v => (ptrAdd 3 v).bind fun v => (readA st v 1 false).bind fun v => (idxSl st 4 v 0).bind fun v => callB (cw 16 [w0, v, AV.int .i64 13] st) (fun v st => (nilCheckA w0).bind fun v => (ptrAdd 0 v).bind fun v => callB (cw 31 [v, AV.int .u8 91] st) (fun v st => (nilCheckA e1).bind fun v => (ptrAdd 3 v).bind fun v => (readA st v 1 false).bind fun v => (idxSl st 4 v 1).bind fun v => callB (cw 16 [w0, v, AV.int .i64 0] st) (fun v st => (nilCheckA w0).bind fun v => (ptrAdd 0 v).bind fun v => callB (cw 31 [v, AV.int .u8 93] st) (fun v st => outL false base (AOut.ret (AV.tup [])) st) fun v st => outL false base (AOut.pan v) st) fun v st => outL false base (AOut.pan v) st) fun v st => outL false base (AOut.pan v) st) fun v st => outL false base (AOut.pan v) st else bif n == 9 then (nilCheckA w0).bind fun v => (ptrAdd 0 v).bind fun v_1 => callB (cw 25 [] st) (fun v_2 st_1 => (nilCheckA e1).bind fun v_3 => (ptrAdd 1 v_3).bind fun v_4 => (readA st_1 v_4 1 false).bind fun v_5 => (intV IntKind.i64 v_5).bind fun n_1 => (natA (AV.int .i64 (IntKind.i64.wrap (n_1 - 1)))).bind fun j => (idxSl st_1 1 v_2 j).bind fun v_6 => (readA st_1 v_6 1 false).bind fun v_7 => (strV v_7).bind fun s => (strA BinOp.add s [UInt8.ofNat 40]).bind fun v_8 => (strV v_8).bind fun s_1 => callB (cw 32 [v_1, AV.str s_1] st_1) (fun v_9 st_2 => if ((if isIp v_4 = true then true else (List.range.loop [st_2, st_1, st].length []).all fun s => if 0 ≤ s ∧ s ≤ 1 then
 match [st_2, st_1, st][[st_2, st_1, st].length - 1 - s]? with
 | some st =>
  match Option.map (fun v => (Res.val v, st)) (ldA Tryd.prog st 3 v_4) with
  | some (Res.val v', snd) => (AV.int .i64 n_1).beq v'
  | x => false
 | none => false else true) && true) = true then (nilCheckA e1).bind fun v => (ptrAdd 3 v).bind fun v => (readA st_2 v 1 false).bind fun v => (idxSl st_2 4 v 0).bind fun v => callB (cw 16 [w0, v, AV.int .i64 0] st_2) (fun v st => (nilCheckA w0).bind fun v => (ptrAdd 0 v).bind fun v => callB (cw 31 [v, AV.int .u8 41] st) (fun v st => outL false base (AOut.ret (AV.tup [])) st) fun v st => outL false base (AOut.pan v) st) fun v st => outL false base (AOut.pan v) st else none) fun v_9 st_2 => if ((if isIp v_4 = true then true else (List.range.loop [st_1, st].length []).all fun s => if 0 ≤ s ∧ s ≤ 1 then
 match [st_1, st][[st_1, st].length - 1 - s]? with
 | some st =>
  match Option.map (fun v => (Res.val v, st)) (ldA Tryd.prog st 3 v_4) with
  | some (Res.val v', snd) => (AV.int .i64 n_1).beq v'
  | x => false
 | none => false else true) && true) = true then none else none) fun v st => none else bif n == 4 then (nilCheckA w0).bind fun v => (ptrAdd 0 v).bind fun v => (nilCheckA e1).bind fun v_1 => (ptrAdd 1 v_1).bind fun v_2 => (readA st v_2 1 false).bind fun v_3 => (intV IntKind.i64 v_3).bind fun n => callB (cw 33 [AV.int .i64 n] st) (fun v_4 st => (strV v_4).bind fun s => callB (cw 32 [v, AV.str s] st) (fun v st => outL false base (AOut.ret (AV.tup [])) st) fun v st => outL false base (AOut.pan v) st) fun v st => outL false base (AOut.pan v) st else bif n == 5 then (nilCheckA e1).bind fun v => (ptrAdd 2 v).bind fun v => (readA st v 1 false).bind fun v => (strV v).bind fun s => callB (cw 34 [w0, AV.str s] st) (fun v st => outL false base (AOut.ret (AV.tup [])) st) fun v st => outL false base (AOut.pan v) st else bif n == 6 then (nilCheckA w0).bind fun v => (ptrAdd 0 v).bind fun v => (nilCheckA e1).bind fun v_1 => (ptrAdd 2 v_1).bind fun v_2 => (readA st v_2 1 false).bind fun v_3 => (strV v_3).bind fun s => callB (cw 32 [v, AV.str s] st) (fun v st => outL false base (AOut.ret (AV.tup [])) st) fun v st => outL false base (AOut.pan v) st else bif n == 1 then (nilCheckA w0).bind fun v => (ptrAdd 0 v).bind fun v => callB (cw 32 [v, AV.str [UInt8.ofNat 110, UInt8.ofNat 117, UInt8.ofNat 108, UInt8.ofNat 108]] st) (fun v st => outL false base (AOut.ret (AV.tup [])) st) fun v st => outL false base (AOut.pan v) st else bif n == 2 then (nilCheckA w0).bind fun v => (ptrAdd 0 v).bind fun v => callB (cw 32 [v, AV.str [UInt8.ofNat 102, UInt8.ofNat 97, UInt8.ofNat 108, UInt8.ofNat 115, UInt8.ofNat 101]] st) (fun v st => outL false base (AOut.ret (AV.tup [])) st) fun v st => outL false base (AOut.pan v) st else bif n == 3 then (nilCheckA w0).bind fun v => (ptrAdd 0 v).bind fun v => callB (cw 32 [v, AV.str [UInt8.ofNat 116, UInt8.ofNat 114, UInt8.ofNat 117, UInt8.ofNat 101]] st) (fun v st => outL false base (AOut.ret (AV.tup [])) st) fun v st => outL false base (AOut.pan v) st else outL false base (AOut.ret (AV.tup [])) st) = some r) : aw 16 base (p16_0) { env := [(0, w0), (1, e1), (2, AV.int .i64 least2), (6, AV.int .i64 level6), (7, AV.str op7), (12, v12), (13, AV.int .i64 v13), (14, AV.int .i64 v14)], defers := [] } st = some r := atW_of (Eq.trans (by kernel_rfl) h)
theorem F16_1 (w0 : AV) (e1 : AV) (least2 : Int) (level6 : Int) (op7 : List UInt8) (i8 : Int) (v12 : AV) (v13 : Int) (v14 : Int) (v19 : AV) (v20 : Int) (v21 : Int) (base : Nat) (n3 : Nat) (st : St) {r : AOut × St} (h : (bif decide (v21 < v20) then (natA (AV.int .i64 v21)).bind fun j => (idxSl st 2 v19 j).bind fun v => (readA st v 2 true).bind fun v => (cellsV 2 v).bind fun cs => (writeA (AObj.box 70 [AV.str [], AV.int .i64 0] :: st) (AV.bp (st.length) 0) cs).bind fun st_1 => (readA st_1 (AV.bp (st.length) 1) 1 false).bind fun v => (intV IntKind.i64 v).bind fun n => (nilCheckA e1).bind fun v => (ptrAdd 0 v).bind fun v => (readA st_1 v 1 false).bind fun v => (intV IntKind.i64 v).bind fun n_1 => bif n == n_1 then (readA st_1 (AV.bp (st.length) 0) 1 false).bind fun v => (strV v).bind fun s => (roundV (st.length) { env := [(0, w0), (1, e1), (2, AV.int .i64 least2), (6, AV.int .i64 (IntKind.i64.wrap (i8 + 1))), (7, AV.str s), (8, AV.int .i64 i8), (12, v12), (13, AV.int .i64 v13), (14, AV.int .i64 v14), (19, v19), (20, AV.int .i64 v20), (21, AV.int .i64 (IntKind.i64.wrap (v21 + 1)))], defers := [] } st_1).bind fun e => aw 16 base (p16_1 n3) e.fst e.snd else (roundV (st.length) { env := [(0, w0), (1, e1), (2, AV.int .i64 least2), (6, AV.int .i64 level6), (7, AV.str op7), (8, AV.int .i64 i8), (12, v12), (13, AV.int .i64 v13), (14, AV.int .i64 v14), (19, v19), (20, AV.int .i64 v20), (21, AV.int .i64 (IntKind.i64.wrap (v21 + 1)))], defers := [] } st_1).bind fun e => aw 16 base (p16_1 n3) e.fst e.snd
else (roundV n3 { env := [(0, w0), (1, e1), (2, AV.int .i64 least2), (6, AV.int .i64 level6), (7, AV.str op7), (12, v12), (13, AV.int .i64 v13), (14, AV.int .i64 (IntKind.i64.wrap (v14 + 1)))], defers := [] } st).bind fun e => aw 16 base p16_0 e.fst e.snd) = some r) : aw 16 base (p16_1 n3) { env := [(0, w0), (1, e1), (2, AV.int .i64 least2), (6, AV.int .i64 level6), (7, AV.str op7), (8, AV.int .i64 i8), (12, v12), (13, AV.int .i64 v13), (14, AV.int .i64 v14), (19, v19), (20, AV.int .i64 v20), (21, AV.int .i64 v21)], defers := [] } st = some r := atW_of (Eq.trans (by kernel_rfl) h)
abbrev p23_0 : List Dir := [.sr, .sr, .sr, .sr, .sr, .sl, .sr, .bk]
theorem F23 (e0 : AV) (c0 : AV) (c1 : AV) (c2 : AV) (c3 : AV) (st : St) {r : AOut × St} (h : ((readA st c0 1 false).bind fun v => (intV IntKind.i64 v).bind fun n => (writeA st c0 [AV.int .i64 (IntKind.i64.wrap (n + 1))]).bind fun st_1 => (readA st_1 c0 1 false).bind fun v => (intV IntKind.i64 v).bind fun n => (readA st_1 c1 1 false).bind fun v => (intV IntKind.i64 v).bind fun n_1 => bif decide (n > n_1) then outL false (st.length) (AOut.ret (AV.bool false)) st_1 else (nilCheckA e0).bind fun v => (ptrAdd 0 v).bind fun v_1 => (readA st_1 v_1 1 false).bind fun v_2 => (intV IntKind.i64 v_2).bind fun n_2 => callB (cw 24 [AV.int .i64 n_2] st_1) (fun v_3 st_2 => (intV IntKind.i64 v_3).bind fun n_3 => (nilCheckA e0).bind fun v_4 => (ptrAdd 3 v_4).bind fun v_5 => (readA st_2 v_5 1 false).bind fun v_6 => (lenSl v_6).bind fun v_7 => (intV IntKind.i64 v_7).bind fun n_4 => if ((if isIp v_5 = true then true else (List.range.loop [st_2, st_1].length []).all fun s => if 0 ≤ s ∧ s ≤ 1 then
 match [st_2, st_1][[st_2, st_1].length - 1 - s]? with
 | some st =>
  match Option.map (fun v => (Res.val v, st)) (ldA Tryd.prog st 22 v_5) with
  | some (Res.val v', snd) => v_6.beq v'
  | x => false
 | none => false else true) && (notMp v_6 && true && true)) = true then bif n_3 != n_4 then outL false (st.length) (AOut.ret (AV.bool false)) st_2 else (nilCheckA e0).bind fun v => (ptrAdd 1 v).bind fun v => (readA st_2 v 1 false).bind fun v => (intV IntKind.i64 v).bind fun n => bif n == 0 then (nilCheckA e0).bind fun v => (ptrAdd 2 v).bind fun v => (readA st_2 v 1 false).bind fun v => (strV v).bind fun s => (strA BinOp.eql s []).bind fun v => (boolV v).bind fun b => (nilCheckA e0).bind fun v => (ptrAdd 0 v).bind fun v => (readA st_2 v 1 false).bind fun v => (intV IntKind.i64 v).bind fun n => bif n == 4 then (nilCheckA e0).bind fun v => (ptrAdd 1 v).bind fun v => (readA st_2 v 1 false).bind fun v => (intV IntKind.i64 v).bind fun n => bif decide (n ≥ 0) then (nilCheckA e0).bind fun v => (ptrAdd 2 v).bind fun v => (readA st_2 v 1 false).bind fun v => (strV v).bind fun s => (strA BinOp.eql s []).bind fun v => (boolV v).bind fun b => (nilCheckA e0).bind fun v => (ptrAdd 3 v).bind fun v => (readA st_2 v 1 false).bind fun v => (lenSl v).bind fun v => (intV IntKind.i64 v).bind fun n => aw 23 (st.length) p23_0 { env := [(0, e0), (4, c3), (7, AV.bool b), (150, AV.int .i64 n), (151, AV.int .i64 0)], defers := [] } st_2 else (nilCheckA e0).bind fun v => (ptrAdd 3 v).bind fun v => (readA st_2 v 1 false).bind fun v => (lenSl v).bind fun v => (intV IntKind.i64 v).bind fun n => aw 23 (st.length) p23_0 { env := [(0, e0), (4, c3), (7, AV.bool false), (150, AV.int .i64 n), (151, AV.int .i64 0)], defers := [] } st_2 else bif n == 9 then (nilCheckA e0).bind fun v => (ptrAdd 1 v).bind fun v_8 => (readA st_2 v_8 1 false).bind fun v_9 => (intV IntKind.i64 v_9).bind fun n_5 => bif decide (n_5 ≥ 1) then (nilCheckA e0).bind fun v_10 => (ptrAdd 1 v_10).bind fun v_11 => (readA st_2 v_11 1 false).bind fun v_12 => (intV IntKind.i64 v_12).bind fun n_6 => callB (cw 25 [] st_2) (fun v_13 st_3 => (lenSl v_13).bind fun v_14 => (intV IntKind.i64 v_14).bind fun n_7 => bif decide (n_6 ≤ n_7) then (nilCheckA e0).bind fun v_15 => (ptrAdd 2 v_15).bind fun v_16 => (readA st_3 v_16 1 false).bind fun v_17 => (strV v_17).bind fun s => (strA BinOp.eql s []).bind fun v_18 => (boolV v_18).bind fun b_1 => if ((if isIp v_11 = true then true else (List.range.loop [st_3, st_2].length []).all fun s => if 0 ≤ s ∧ s ≤ 1 then
 match [st_3, st_2][[st_3, st_2].length - 1 - s]? with
 | some st =>
  match Option.map (fun v => (Res.val v, st)) (ldA Tryd.prog st 3 v_11) with
  | some (Res.val v', snd) => (AV.int .i64 n_6).beq v'
  | x => false
 | none => false else true) && true) = true then (nilCheckA e0).bind fun v => (ptrAdd 3 v).bind fun v => (readA st_3 v 1 false).bind fun v => (lenSl v).bind fun v => (intV IntKind.i64 v).bind fun n => aw 23 (st.length) p23_0 { env := [(0, e0), (4, c3), (7, AV.bool b_1), (150, AV.int .i64 n), (151, AV.int .i64 0)], defers := [] } st_3 else none else if ((if isIp v_11 = true then true else (List.range.loop [st_3, st_2].length []).all fun s => if 0 ≤ s ∧ s ≤ 1 then
 match [st_3, st_2][[st_3, st_2].length - 1 - s]? with
 | some st =>
  match Option.map (fun v => (Res.val v, st)) (ldA Tryd.prog st 3 v_11) with
  | some (Res.val v', snd) => (AV.int .i64 n_6).beq v'
  | x => false
 | none => false else true) && true) = true then (nilCheckA e0).bind fun v => (ptrAdd 3 v).bind fun v => (readA st_3 v 1 false).bind fun v => (lenSl v).bind fun v => (intV IntKind.i64 v).bind fun n => aw 23 (st.length) p23_0 { env := [(0, e0), (4, c3), (7, AV.bool false), (150, AV.int .i64 n), (151, AV.int .i64 0)], defers := [] } st_3 else none) fun v_13 st_3 => if ((if isIp v_11 = true then true else (List.range.loop [st_2].length []).all fun s => if 0 ≤ s ∧ s ≤ 1 then
 match [st_2][[st_2].length - 1 - s]? with
 | some st =>
  match Option.map (fun v => (Res.val v, st)) (ldA Tryd.prog st 3 v_11) with
  | some (Res.val v', snd) => (AV.int .i64 n_6).beq v'
  | x => false
 | none => false else true) && true) = true then outL false (st.length) (AOut.pan v_13) st_3 else none else (nilCheckA e0).bind fun v => (ptrAdd 3 v).bind fun v => (readA st_2 v 1 false).bind fun v => (lenSl v).bind fun v => (intV IntKind.i64 v).bind fun n => aw 23 (st.length) p23_0 { env := [(0, e0), (4, c3), (7, AV.bool false), (150, AV.int .i64 n), (151, AV.int .i64 0)], defers := [] } st_2 else bif n == 5 then (nilCheckA e0).bind fun v => (ptrAdd 1 v).bind fun v => (readA st_2 v 1 false).bind fun v => (intV IntKind.i64 v).bind fun n => bif n == 0 then (readA st_2 c2 1 false).bind fun v => (boolV v).bind fun b => bif b then (nilCheckA e0).bind fun v => (ptrAdd 2 v).bind fun v => (readA st_2 v 1 false).bind fun v => (strV v).bind fun s => callB (cw 26 [AV.str s] st_2) (fun v st_3 => (boolV v).bind fun b => bif b then (nilCheckA e0).bind fun v => (ptrAdd 3 v).bind fun v => (readA st_3 v 1 false).bind fun v => (lenSl v).bind fun v => (intV IntKind.i64 v).bind fun n => aw 23 (st.length) p23_0 { env := [(0, e0), (4, c3), (7, AV.bool true), (150, AV.int .i64 n), (151, AV.int .i64 0)], defers := [] } st_3 else (nilCheckA e0).bind fun v => (ptrAdd 2 v).bind fun v => (readA st_3 v 1 false).bind fun v => (strV v).bind fun s => callB (cw 27 [AV.str s] st_3) (fun v st_4 => (boolV v).bind fun b => (nilCheckA e0).bind fun v => (ptrAdd 3 v).bind fun v => (readA st_4 v 1 false).bind fun v => (lenSl v).bind fun v => (intV IntKind.i64 v).bind fun n => aw 23 (st.length) p23_0 { env := [(0, e0), (4, c3), (7, AV.bool b), (150, AV.int .i64 n), (151, AV.int .i64 0)], defers := [] } st_4) fun v st_4 => outL false (st.length) (AOut.pan v) st_4) fun v st_3 => outL false (st.length) (AOut.pan v) st_3 else (nilCheckA e0).bind fun v => (ptrAdd 2 v).bind fun v => (readA st_2 v 1 false).bind fun v => (strV v).bind fun s => callB (cw 27 [AV.str s] st_2) (fun v st_3 => (boolV v).bind fun b => (nilCheckA e0).bind fun v => (ptrAdd 3 v).bind fun v => (readA st_3 v 1 false).bind fun v => (lenSl v).bind fun v => (intV IntKind.i64 v).bind fun n => aw 23 (st.length) p23_0 { env := [(0, e0), (4, c3), (7, AV.bool b), (150, AV.int .i64 n), (151, AV.int .i64 0)], defers := [] } st_3) fun v st_3 => outL false (st.length) (AOut.pan v) st_3 else (nilCheckA e0).bind fun v => (ptrAdd 3 v).bind fun v => (readA st_2 v 1 false).bind fun v => (lenSl v).bind fun v => (intV IntKind.i64 v).bind fun n => aw 23 (st.length) p23_0 { env := [(0, e0), (4, c3), (7, AV.bool false), (150, AV.int .i64 n), (151, AV.int .i64 0)], defers := [] } st_2 else bif n == 6 then (readA st_2 c2 1 false).bind fun v => (boolV v).bind fun b => bif b then (nilCheckA e0).bind fun v => (ptrAdd 2 v).bind fun v => (readA st_2 v 1 false).bind fun v => (strV v).bind fun s => (strA BinOp.eql s []).bind fun v => (boolV v).bind fun b => (nilCheckA e0).bind fun v => (ptrAdd 3 v).bind fun v => (readA st_2 v 1 false).bind fun v => (lenSl v).bind fun v => (intV IntKind.i64 v).bind fun n => aw 23 (st.length) p23_0 { env := [(0, e0), (4, c3), (7, AV.bool b), (150, AV.int .i64 n), (151, AV.int .i64 0)], defers := [] } st_2 else (nilCheckA e0).bind fun v => (ptrAdd 1 v).bind fun v => (readA st_2 v 1 false).bind fun v => (intV IntKind.i64 v).bind fun n => bif n == 0 then (nilCheckA e0).bind fun v => (ptrAdd 2 v).bind fun v => (readA st_2 v 1 false).bind fun v => (strV v).bind fun s => callB (cw 28 [AV.str s] st_2) (fun v st_3 => (boolV v).bind fun b => bif b then (nilCheckA e0).bind fun v => (ptrAdd 2 v).bind fun v => (readA st_3 v 1 false).bind fun v => (strV v).bind fun s => callB (cw 29 [AV.str s] st_3) (fun v st_4 => (intV IntKind.i64 v).bind fun n => (nilCheckA e0).bind fun v => (ptrAdd 3 v).bind fun v => (readA st_4 v 1 false).bind fun v => (lenSl v).bind fun v => (intV IntKind.i64 v).bind fun n_5 => aw 23 (st.length) p23_0 { env := [(0, e0), (4, c3), (7, AV.bool (n == 0)), (150, AV.int .i64 n_5), (151, AV.int .i64 0)], defers := [] } st_4) fun v st_4 => outL false (st.length) (AOut.pan v) st_4 else (nilCheckA e0).bind fun v => (ptrAdd 3 v).bind fun v => (readA st_3 v 1 false).bind fun v => (lenSl v).bind fun v => (intV IntKind.i64 v).bind fun n => aw 23 (st.length) p23_0 { env := [(0, e0), (4, c3), (7, AV.bool false), (150, AV.int .i64 n), (151, AV.int .i64 0)], defers := [] } st_3) fun v st_3 => outL false (st.length) (AOut.pan v) st_3 else (nilCheckA e0).bind fun v => (ptrAdd 3 v).bind fun v => (readA st_2 v 1 false).bind fun v => (lenSl v).bind fun v => (intV IntKind.i64 v).bind fun n => aw 23 (st.length) p23_0 { env := [(0, e0), (4, c3), (7, AV.bool false), (150, AV.int .i64 n), (151, AV.int .i64 0)], defers := [] } st_2 else bif n == 7 then (nilCheckA e0).bind fun v => (ptrAdd 1 v).bind fun v => (readA st_2 v 1 false).bind fun v => (intV IntKind.i64 v).bind fun n => bif n == 0 then (nilCheckA e0).bind fun v => (ptrAdd 2 v).bind fun v => (readA st_2 v 1 false).bind fun v => (strV v).bind fun s => callB (cw 28 [AV.str s] st_2) (fun v st_3 => (boolV v).bind fun b => (nilCheckA e0).bind fun v => (ptrAdd 3 v).bind fun v => (readA st_3 v 1 false).bind fun v => (lenSl v).bind fun v => (intV IntKind.i64 v).bind fun n => aw 23 (st.length) p23_0 { env := [(0, e0), (4, c3), (7, AV.bool b), (150, AV.int .i64 n), (151, AV.int .i64 0)], defers := [] } st_3) fun v st_3 => outL false (st.length) (AOut.pan v) st_3 else (nilCheckA e0).bind fun v => (ptrAdd 3 v).bind fun v => (readA st_2 v 1 false).bind fun v => (lenSl v).bind fun v => (intV IntKind.i64 v).bind fun n => aw 23 (st.length) p23_0 { env := [(0, e0), (4, c3), (7, AV.bool false), (150, AV.int .i64 n), (151, AV.int .i64 0)], defers := [] } st_2 else (nilCheckA e0).bind fun v => (ptrAdd 3 v).bind fun v => (readA st_2 v 1 false).bind fun v => (lenSl v).bind fun v => (intV IntKind.i64 v).bind fun n => aw 23 (st.length) p23_0 { env := [(0, e0), (4, c3), (7, AV.bool b), (150, AV.int .i64 n), (151, AV.int .i64 0)], defers := [] } st_2 else (nilCheckA e0).bind fun v => (ptrAdd 0 v).bind fun v => (readA st_2 v 1 false).bind fun v => (intV IntKind.i64 v).bind fun n => bif n == 4 then (nilCheckA e0).bind fun v => (ptrAdd 1 v).bind fun v => (readA st_2 v 1 false).bind fun v => (intV IntKind.i64 v).bind fun n => bif decide (n ≥ 0) then (nilCheckA e0).bind fun v => (ptrAdd 2 v).bind fun v => (readA st_2 v 1 false).bind fun v => (strV v).bind fun s => (strA BinOp.eql s []).bind fun v => (boolV v).bind fun b => (nilCheckA e0).bind fun v => (ptrAdd 3 v).bind fun v => (readA st_2 v 1 false).bind fun v => (lenSl v).bind fun v => (intV IntKind.i64 v).bind fun n => aw 23 (st.length) p23_0 { env := [(0, e0), (4, c3), (7, AV.bool b), (150, AV.int .i64 n), (151, AV.int .i64 0)], defers := [] } st_2 else (nilCheckA e0).bind fun v => (ptrAdd 3 v).bind fun v => (readA st_2 v 1 false).bind fun v => (lenSl v).bind fun v => (intV IntKind.i64 v).bind fun n => aw 23 (st.length) p23_0 { env := [(0, e0), (4, c3), (7, AV.bool false), (150, AV.int .i64 n), (151, AV.int .i64 0)], defers := [] } st_2 else bif n == 9 then (nilCheckA e0).bind fun v => (ptrAdd 1 v).bind fun v_8 => (readA st_2 v_8 1 false).bind fun v_9 => (intV IntKind.i64 v_9).bind fun n_5 => bif decide (n_5 ≥ 1) then (nilCheckA e0).bind fun v_10 => (ptrAdd 1 v_10).bind fun v_11 => (readA st_2 v_11 1 false).bind fun v_12 => (intV IntKind.i64 v_12).bind fun n_6 => callB (cw 25 [] st_2) (fun v_13 st_3 => (lenSl v_13).bind fun v_14 => (intV IntKind.i64 v_14).bind fun n_7 => bif decide (n_6 ≤ n_7) then (nilCheckA e0).bind fun v_15 => (ptrAdd 2 v_15).bind fun v_16 => (readA st_3 v_16 1 false).bind fun v_17 => (strV v_17).bind fun s => (strA BinOp.eql s []).bind fun v_18 => (boolV v_18).bind fun b => if ((if isIp v_11 = true then true else (List.range.loop [st_3, st_2].length []).all fun s => if 0 ≤ s ∧ s ≤ 1 then
 match [st_3, st_2][[st_3, st_2].length - 1 - s]? with
 | some st =>
  match Option.map (fun v => (Res.val v, st)) (ldA Tryd.prog st 3 v_11) with
  | some (Res.val v', snd) => (AV.int .i64 n_6).beq v'
  | x => false
 | none => false else true) && true) = true then (nilCheckA e0).bind fun v => (ptrAdd 3 v).bind fun v => (readA st_3 v 1 false).bind fun v => (lenSl v).bind fun v => (intV IntKind.i64 v).bind fun n => aw 23 (st.length) p23_0 { env := [(0, e0), (4, c3), (7, AV.bool b), (150, AV.int .i64 n), (151, AV.int .i64 0)], defers := [] } st_3 else none else if ((if isIp v_11 = true then true else (List.range.loop [st_3, st_2].length []).all fun s => if 0 ≤ s ∧ s ≤ 1 then
 match [st_3, st_2][[st_3, st_2].length - 1 - s]? with
 | some st =>
  match Option.map (fun v => (Res.val v, st)) (ldA Tryd.prog st 3 v_11) with
  | some (Res.val v', snd) => (AV.int .i64 n_6).beq v'
  | x => false
 | none => false else true) && true) = true then (nilCheckA e0).bind fun v => (ptrAdd 3 v).bind fun v => (readA st_3 v 1 false).bind fun v => (lenSl v).bind fun v => (intV IntKind.i64 v).bind fun n => aw 23 (st.length) p23_0 { env := [(0, e0), (4, c3), (7, AV.bool false), (150, AV.int .i64 n), (151, AV.int .i64 0)], defers := [] } st_3 else none) fun v_13 st_3 => if ((if isIp v_11 = true then true else (List.range.loop [st_2].length []).all fun s => if 0 ≤ s ∧ s ≤ 1 then
 match [st_2][[st_2].length - 1 - s]? with
 | some st =>
  match Option.map (fun v => (Res.val v, st)) (ldA Tryd.prog st 3 v_11) with
  | some (Res.val v', snd) => (AV.int .i64 n_6).beq v'
  | x => false
 | none => false else true) && true) = true then outL false (st.length) (AOut.pan v_13) st_3 else none else (nilCheckA e0).bind fun v => (ptrAdd 3 v).bind fun v => (readA st_2 v 1 false).bind fun v => (lenSl v).bind fun v => (intV IntKind.i64 v).bind fun n => aw 23 (st.length) p23_0 { env := [(0, e0), (4, c3), (7, AV.bool false), (150, AV.int .i64 n), (151, AV.int .i64 0)], defers := [] } st_2 else bif n == 5 then (nilCheckA e0).bind fun v => (ptrAdd 1 v).bind fun v => (readA st_2 v 1 false).bind fun v => (intV IntKind.i64 v).bind fun n => bif n == 0 then (readA st_2 c2 1 false).bind fun v => (boolV v).bind fun b => bif b then (nilCheckA e0).bind fun v => (ptrAdd 2 v).bind fun v => (readA st_2 v 1 false).bind fun v => (strV v).bind fun s => callB (cw 26 [AV.str s] st_2) (fun v st_3 => (boolV v).bind fun b => bif b then (nilCheckA e0).bind fun v => (ptrAdd 3 v).bind fun v => (readA st_3 v 1 false).bind fun v => (lenSl v).bind fun v => (intV IntKind.i64 v).bind fun n => aw 23 (st.length) p23_0 { env := [(0, e0), (4, c3), (7, AV.bool true), (150, AV.int .i64 n), (151, AV.int .i64 0)], defers := [] } st_3 else (nilCheckA e0).bind fun v => (ptrAdd 2 v).bind fun v => (readA st_3 v 1 false).bind fun v => (strV v).bind fun s => callB (cw 27 [AV.str s] st_3) (fun v st_4 => (boolV v).bind fun b => (nilCheckA e0).bind fun v => (ptrAdd 3 v).bind fun v => (readA st_4 v 1 false).bind fun v => (lenSl v).bind fun v => (intV IntKind.i64 v).bind fun n => aw 23 (st.length) p23_0 { env := [(0, e0), (4, c3), (7, AV.bool b), (150, AV.int .i64 n), (151, AV.int .i64 0)], defers := [] } st_4) fun v st_4 => outL false (st.length) (AOut.pan v) st_4) fun v st_3 => outL false (st.length) (AOut.pan v) st_3 else (nilCheckA e0).bind fun v => (ptrAdd 2 v).bind fun v => (readA st_2 v 1 false).bind fun v => (strV v).bind fun s => callB (cw 27 [AV.str s] st_2) (fun v st_3 => (boolV v).bind fun b => (nilCheckA e0).bind fun v => (ptrAdd 3 v).bind fun v => (readA st_3 v 1 false).bind fun v => (lenSl v).bind fun v => (intV IntKind.i64 v).bind fun n => aw 23 (st.length) p23_0 { env := [(0, e0), (4, c3), (7, AV.bool b), (150, AV.int .i64 n), (151, AV.int .i64 0)], defers := [] } st_3) fun v st_3 => outL false (st.length) (AOut.pan v) st_3 else (nilCheckA e0).bind fun v => (ptrAdd 3 v).bind fun v => (readA st_2 v 1 false).bind fun v => (lenSl v).bind fun v => (intV IntKind.i64 v).bind fun n => aw 23 (st.length) p23_0 { env := [(0, e0), (4, c3), (7, AV.bool false), (150, AV.int .i64 n), (151, AV.int .i64 0)], defers := [] } st_2 else bif n == 6 then (readA st_2 c2 1 false).bind fun v => (boolV v).bind fun b => bif b then (nilCheckA e0).bind fun v => (ptrAdd 2 v).bind fun v => (readA st_2 v 1 false).bind fun v => (strV v).bind fun s => (strA BinOp.eql s []).bind fun v => (boolV v).bind fun b => (nilCheckA e0).bind fun v => (ptrAdd 3 v).bind fun v => (readA st_2 v 1 false).bind fun v => (lenSl v).bind fun v => (intV IntKind.i64 v).bind fun n => aw 23 (st.length) p23_0 { env := [(0, e0), (4, c3), (7, AV.bool b), (150, AV.int .i64 n), (151, AV.int .i64 0)], defers := [] } st_2 else (nilCheckA e0).bind fun v => (ptrAdd 1 v).bind fun v => (readA st_2 v 1 false).bind fun v => (intV IntKind.i64 v).bind fun n => bif n == 0 then (nilCheckA e0).bind fun v => (ptrAdd 2 v).bind fun v => (readA st_2 v 1 false).bind fun v => (strV v).bind fun s => callB (cw 28 [AV.str s] st_2) (fun v st_3 => (boolV v).bind fun b => bif b then (nilCheckA e0).bind fun v => (ptrAdd 2 v).bind fun v => (readA st_3 v 1 false).bind fun v => (strV v).bind fun s => callB (cw 29 [AV.str s] st_3) (fun v st_4 => (intV IntKind.i64 v).bind fun n => (nilCheckA e0).bind fun v => (ptrAdd 3 v).bind fun v => (readA st_4 v 1 false).bind fun v => (lenSl v).bind fun v => (intV IntKind.i64 v).bind fun n_5 => aw 23 (st.length) p23_0 { env := [(0, e0), (4, c3), (7, AV.bool (n == 0)), (150, AV.int .i64 n_5), (151, AV.int .i64 0)], defers := [] } st_4) fun v st_4 => outL false (st.length) (AOut.pan v) st_4 else (nilCheckA e0).bind fun v => (ptrAdd 3 v).bind fun v => (readA st_3 v 1 false).bind fun v => (lenSl v).bind fun v => (intV IntKind.i64 v).bind fun n => aw 23 (st.length) p23_0 { env := [(0, e0), (4, c3), (7, AV.bool false), (150, AV.int .i64 n), (151, AV.int .i64 0)], defers := [] } st_3) fun v st_3 => outL false (st.length) (AOut.pan v) st_3 else (nilCheckA e0).bind fun v => (ptrAdd 3 v).bind fun v => (readA st_2 v 1 false).bind fun v => (lenSl v).bind fun v => (intV IntKind.i64 v).bind fun n => aw 23 (st.length) p23_0 { env := [(0, e0), (4, c3), (7, AV.bool false), (150, AV.int .i64 n), (151, AV.int .i64 0)], defers := [] } st_2 else bif n == 7 then (nilCheckA e0).bind fun v => (ptrAdd 1 v).bind fun v => (readA st_2 v 1 false).bind fun v => (intV IntKind.i64 v).bind fun n => bif n == 0 then (nilCheckA e0).bind fun v => (ptrAdd 2 v).bind fun v => (readA st_2 v 1 false).bind fun v => (strV v).bind fun s => callB (cw 28 [AV.str s] st_2) (fun v st_3 => (boolV v).bind fun b => (nilCheckA e0).bind fun v => (ptrAdd 3 v).bind fun v => (readA st_3 v 1 false).bind fun v => (lenSl v).bind fun v => (intV IntKind.i64 v).bind fun n => aw 23 (st.length) p23_0 { env := [(0, e0), (4, c3), (7, AV.bool b), (150, AV.int .i64 n), (151, AV.int .i64 0)], defers := [] } st_3) fun v st_3 => outL false (st.length) (AOut.pan v) st_3 else (nilCheckA e0).bind fun v => (ptrAdd 3 v).bind fun v => (readA st_2 v 1 false).bind fun v => (lenSl v).bind fun v => (intV IntKind.i64 v).bind fun n => aw 23 (st.length) p23_0 { env := [(0, e0), (4, c3), (7, AV.bool false), (150, AV.int .i64 n), (151, AV.int .i64 0)], defers := [] } st_2 else (nilCheckA e0).bind fun v => (ptrAdd 3 v).bind fun v => (readA st_2 v 1 false).bind fun v => (lenSl v).bind fun v => (intV IntKind.i64 v).bind fun n => aw 23 (st.length) p23_0 { env := [(0, e0), (4, c3), (7, AV.bool false), (150, AV.int .i64 n), (151, AV.int .i64 0)], defers := [] } st_2 else none) fun v st => none) = some r) : cw 23 [e0, c0, c1, c2, c3] st = some r := callW_of (Eq.trans (by kernel_rfl) h)
theorem F23_0 (e0 : AV) (v4 : AV) (fine7 : Bool) (v150 : Int) (v151 : Int) (base : Nat) (st : St) {r : AOut × St} (h : (bif decide (v151 < v150) then bif fine7 then (readA st v4 1 false).bind fun v => (nilCheckA e0).bind fun v_1 => (ptrAdd 3 v_1).bind fun v_2 => (readA st v_2 1 false).bind fun v_3 => (natA (AV.int .i64 v151)).bind fun j => (idxSl st 4 v_3 j).bind fun v_4 => (fnV v).bind fun q => if (if q.fst = 61 then some sameX else if q.fst = 63 then some indexX else none).isSome = true then none else callB (cw q.fst ([v_4] ++ q.snd) st) (fun v st_1 => (boolV v).bind fun b => (roundV (st.length) { env := [(0, e0), (4, v4), (7, AV.bool b), (150, AV.int .i64 v150), (151, AV.int .i64 (IntKind.i64.wrap (v151 + 1)))], defers := [] } st_1).bind fun e => aw 23 base p23_0 e.fst e.snd) fun v st => outL false base (AOut.pan v) st else (roundV (st.length) { env := [(0, e0), (4, v4), (7, AV.bool false), (150, AV.int .i64 v150), (151, AV.int .i64 (IntKind.i64.wrap (v151 + 1)))], defers := [] } st).bind fun e => aw 23 base p23_0 e.fst e.snd
else outL false base (AOut.ret (AV.bool fine7)) st) = some r) : aw 23 base (p23_0) { env := [(0, e0), (4, v4), (7, AV.bool fine7), (150, AV.int .i64 v150), (151, AV.int .i64 v151)], defers := [] } st = some r := atW_of (Eq.trans (by kernel_rfl) h)
abbrev p6_0 : List Dir := [.sr, .sr, .sr, .sr, .sl, .sr, .bk]
theorem F6 (many0 : Int) (kind1 : Int) (st : St) {r : AOut × St} (h : (callB (cw 7 [] st) (fun v st_1 => (boolV v).bind fun b => bif !b then outL false (st.length) (AOut.ret (AV.bool false)) st_1 else aw 6 (st.length) p6_0 { env := [(1, AV.int .i64 kind1), (5, AV.int .i64 (bits BinOp.and IntKind.i64 many0 63)), (6, AV.str [UInt8.ofNat 97]), (7, AV.int .i64 0)], defers := [] } st_1) fun v st_1 => outL false (st.length) (AOut.pan v) st_1) = some r) : cw 6 [AV.int .i64 many0, AV.int .i64 kind1] st = some r := callW_of (Eq.trans (by kernel_rfl) h)
theorem F6_0 (kind1 : Int) (k5 : Int) (s6 : List UInt8) (i7 : Int) (base : Nat) (st : St) {r : AOut × St} (h : (bif decide (i7 < k5) then bif bits BinOp.and IntKind.i64 kind1 3 == 0 then (strA BinOp.add [UInt8.ofNat 40] s6).bind fun v => (strV v).bind fun s => (strA BinOp.add s [UInt8.ofNat 41]).bind fun v => (strV v).bind fun s => aw 6 base p6_0 { env := [(1, AV.int .i64 kind1), (5, AV.int .i64 k5), (6, AV.str s), (7, AV.int .i64 (IntKind.i64.wrap (i7 + 1)))], defers := [] } st else bif bits BinOp.and IntKind.i64 kind1 3 == 1 then (strA BinOp.add [UInt8.ofNat 45] s6).bind fun v => (strV v).bind fun s => aw 6 base p6_0 { env := [(1, AV.int .i64 kind1), (5, AV.int .i64 k5), (6, AV.str s), (7, AV.int .i64 (IntKind.i64.wrap (i7 + 1)))], defers := [] } st else bif bits BinOp.and IntKind.i64 kind1 3 == 2 then (strA BinOp.add [UInt8.ofNat 98, UInt8.ofNat 91] s6).bind fun v => (strV v).bind fun s => (strA BinOp.add s [UInt8.ofNat 93]).bind fun v => (strV v).bind fun s => aw 6 base p6_0 { env := [(1, AV.int .i64 kind1), (5, AV.int .i64 k5), (6, AV.str s), (7, AV.int .i64 (IntKind.i64.wrap (i7 + 1)))], defers := [] } st else (strA BinOp.add [UInt8.ofNat 99, UInt8.ofNat 32, UInt8.ofNat 63, UInt8.ofNat 32, UInt8.ofNat 98, UInt8.ofNat 32, UInt8.ofNat 58, UInt8.ofNat 32] s6).bind fun v => (strV v).bind fun s => aw 6 base p6_0 { env := [(1, AV.int .i64 kind1), (5, AV.int .i64 k5), (6, AV.str s), (7, AV.int .i64 (IntKind.i64.wrap (i7 + 1)))], defers := [] } st
else callB (cw 11 [AV.str s6] st) (fun v st => (extractA 0 v).bind fun v_1 => (extractA 1 v).bind fun v_2 => (intV IntKind.i64 v_2).bind fun n => (extractA 2 v).bind fun v => (intV IntKind.i64 v).bind fun n_1 => (cellsV 4 v_1).bind fun cs => (writeA (AObj.free 0 :: AObj.box 24 [AV.int .i64 0, AV.int .i64 0, AV.str [], AV.nils] :: st) (AV.bp (st.length) 0) cs).bind fun st => bif decide (k5 < 32) then callB (cw 10 [AV.int .i64 n_1] st) (fun v st => (intV IntKind.i64 v).bind fun n => outL false base (AOut.ret (AV.bool (n == 0))) st) fun v st => outL false base (AOut.pan v) st else callB (cw 10 [AV.int .i64 n_1] st) (fun v st => (intV IntKind.i64 v).bind fun n_2 => bif n_2 == 1001 then bif decide (n > 0) then outL false base (AOut.ret (AV.bool (decide (n < (s6.length : Int))))) st else outL false base (AOut.ret (AV.bool false)) st else outL false base (AOut.ret (AV.bool false)) st) fun v st => outL false base (AOut.pan v) st) fun v st => outL false base (AOut.pan v) st) = some r) : aw 6 base p6_0 { env := [(1, AV.int .i64 kind1), (5, AV.int .i64 k5), (6, AV.str s6), (7, AV.int .i64 i7)], defers := [] } st = some r := atW_of (Eq.trans (by kernel_rfl) h)
theorem F7 (st : St) {r : AOut × St} (h : (callB (cw 11 [AV.str [UInt8.ofNat 45, UInt8.ofNat 40, UInt8.ofNat 97, UInt8.ofNat 126, UInt8.ofNat 39, UInt8.ofNat 120, UInt8.ofNat 39, UInt8.ofNat 41, UInt8.ofNat 32, UInt8.ofNat 63, UInt8.ofNat 32, UInt8.ofNat 33, UInt8.ofNat 98, UInt8.ofNat 32, UInt8.ofNat 58, UInt8.ofNat 32, UInt8.ofNat 40, UInt8.ofNat 40, UInt8.ofNat 99, UInt8.ofNat 41, UInt8.ofNat 41]] st) (fun v st_1 => (extractA 0 v).bind fun v_1 => (extractA 1 v).bind fun v_2 => (intV IntKind.i64 v_2).bind fun n => (extractA 2 v).bind fun v => (intV IntKind.i64 v).bind fun n => (cellsV 4 v_1).bind fun cs => (writeA (AObj.free 0 :: AObj.box 24 [AV.int .i64 0, AV.int .i64 0, AV.str [], AV.nils] :: st_1) (AV.bp (st_1.length) 0) cs).bind fun st_2 => (readA st_2 (AV.bp (st_1.length) 0) 4 true).bind fun v => callB (cw 9 [v] st_2) (fun v st_3 => (extractA 0 v).bind fun v_3 => (strV v_3).bind fun s => (extractA 1 v).bind fun v => (intV IntKind.i64 v).bind fun n_1 => callB (cw 11 [AV.str [UInt8.ofNat 97, UInt8.ofNat 32, UInt8.ofNat 98]] st_3) (fun v st_4 => (extractA 0 v).bind fun v_4 => (extractA 1 v).bind fun v_5 => (intV IntKind.i64 v_5).bind fun n_2 => (extractA 2 v).bind fun v => (intV IntKind.i64 v).bind fun n_3 => (cellsV 4 v_4).bind fun cs => (writeA (AObj.free 0 :: AObj.box 24 [AV.int .i64 0, AV.int .i64 0, AV.str [], AV.nils] :: st_4) (AV.bp (st_4.length) 0) cs).bind fun st_5 => callB (cw 10 [AV.int .i64 n] st_5) (fun v st_6 => (intV IntKind.i64 v).bind fun n => bif n == 0 then callB (cw 10 [AV.int .i64 n_1] st_6) (fun v st_7 => (intV IntKind.i64 v).bind fun n => bif n == 0 then (strA BinOp.eql s [UInt8.ofNat 45, UInt8.ofNat 40, UInt8.ofNat 97, UInt8.ofNat 32, UInt8.ofNat 126, UInt8.ofNat 32, UInt8.ofNat 39, UInt8.ofNat 120, UInt8.ofNat 39, UInt8.ofNat 41, UInt8.ofNat 32, UInt8.ofNat 63, UInt8.ofNat 32, UInt8.ofNat 33, UInt8.ofNat 98, UInt8.ofNat 32, UInt8.ofNat 58, UInt8.ofNat 32, UInt8.ofNat 99]).bind fun v => (boolV v).bind fun b => bif b then callB (cw 10 [AV.int .i64 n_3] st_7) (fun v st_8 => (intV IntKind.i64 v).bind fun n => bif n == 1000 then outL false (st.length) (AOut.ret (AV.bool (n_2 == 2))) st_8 else outL false (st.length) (AOut.ret (AV.bool false)) st_8) fun v st_8 => outL false (st.length) (AOut.pan v) st_8 else outL false (st.length) (AOut.ret (AV.bool false)) st_7 else outL false (st.length) (AOut.ret (AV.bool false)) st_7) fun v st_7 => outL false (st.length) (AOut.pan v) st_7 else outL false (st.length) (AOut.ret (AV.bool false)) st_6) fun v st_6 => outL false (st.length) (AOut.pan v) st_6) fun v st_4 => outL false (st.length) (AOut.pan v) st_4) fun v st_3 => outL false (st.length) (AOut.pan v) st_3) fun v st_1 => outL false (st.length) (AOut.pan v) st_1) = some r) : cw 7 [] st = some r := callW_of (Eq.trans (by kernel_rfl) h)
end Go.Abs
