/- The interpreter by value, its soundness, and plain lemmas on it: part 2 of 3; no condition. -/
import Derived.Test.YtahpohhadcflfaaZA
import Derived.Laws.BytesString
import Derived.Lib.UnsafeStr
import Derived.Laws.MakeOwn
import Derived.MapKept
import Derived.Calls
import Derived.ScopeJumps
import Derived.Defers
/- The interpreter by value: copy, make, walks over texts, texts made of bytes. -/
namespace Go.Abs
open Go Go.RowKit
set_option linter.unusedVariables false
set_option linter.unusedSimpArgs false

section
variable {P : Program} {W : World} {bs : Nat} {σ : Gh} {st : St} {w : World}

theorem take_min {α : Type} (l : List α) (n : Nat) : l.take (min l.length n) = l.take n := by
  rcases Nat.le_total l.length n with h | h
  · rw [Nat.min_eq_left h, List.take_length, List.take_of_length_le h]
  · rw [Nat.min_eq_right h]

theorem sim_copy {ts : Array TypeId} {ty t : TypeId} {dv sv : Value} {d s : AV} {r : AV × St} (h : WF P W bs σ st w) (h0 : ts[0]? = some t) (hd : Rep P σ dv d) (hs : Rep P σ sv s) (hc : copyA P st t d s = some r) :
    ∃ v w', (Builtin.copy_ ts ty #[dv, sv]).run P w = .ok v w' ∧ WF P W bs σ r.2 w' ∧ Rep P σ v r.1 := by
  unfold copyA at hc
  split at hc
  · rename_i e ht
    obtain ⟨kd, hk, h2⟩ := Option.bind_eq_some_iff.1 hc
    obtain ⟨new, hnew, h3⟩ := Option.bind_eq_some_iff.1 h2
    clear hc h2
    obtain ⟨hsz, hu8⟩ := kdOf_sz hk
    obtain ⟨hlen, hrows⟩ := sim_rows h hs hnew
    split at h3
    · cases h3
      cases hd
      obtain ⟨vs, v1, v2, v3⟩ := hrows 0 (Nat.zero_le _)
      refine ⟨.int .i64 0, w, ?_, h, .int _ _⟩
      simp [Builtin.copy_, h0, run_underlying ht, hlen, run_sizeOf' hsz, v1, goInt]
    · rename_i o ep off len cap
      split at h3
      · rename_i kd' ep' rs ho
        split at h3
        · rename_i hcond
          obtain ⟨rfl, rfl, hle⟩ := hcond
          cases h3
          obtain ⟨vs, v1, v2, v3⟩ := hrows (min new.length len) (Nat.min_le_left _ _)
          rw [take_min] at v3
          obtain ⟨b, base, cells, ce, fz, g1, hbs, g3, hI, hfz0, hfit, hsh0, hs3⟩ := h.rowsOf ho
          obtain ⟨_, _, _, _, _, _, hrl, _⟩ := h.obj _ _ ho
          cases hd with
          | ms b' base' kd0 oo _ _ _ _ c _ hR hcap hlen' hoo hsh =>
          rw [hR] at g1
          simp only [Option.some.injEq, Prod.mk.injEq] at g1
          obtain ⟨rfl, rfl, rfl⟩ := g1
          have hnl : (new.take len).length = min new.length len := by rw [List.length_take]; exact Nat.min_comm _ _
          have hmul : (off + min new.length len) * szk kd0 ≤ rs.length * szk kd0 := Nat.mul_le_mul_right _ (by omega)
          rw [Nat.add_mul] at hmul
          have hle2 : base' + off * szk kd0 + vs.size ≤ cells.size := by rw [v2]; omega
          rcases Nat.eq_zero_or_pos c with hc0 | hcp
          · -- a slice without room
            have hl0 : len = 0 := by omega
            subst hl0
            have hvs : vs = #[] := Array.eq_empty_of_size_eq_zero (by rw [v2]; simp)
            subst hvs
            have hrs : rs.take off ++ new.take 0 ++ rs.drop (off + min new.length 0) = rs := by simp
            have hsame : St.put st o (.rows kd0 ep rs) = st := by
              unfold St.put
              rw [if_pos (St.get_lt ho)]
              have hg := ho
              unfold St.get at hg
              rw [if_pos (St.get_lt ho)] at hg
              obtain ⟨hlt, hge⟩ := List.getElem?_eq_some_iff.1 hg
              rw [← hge, List.set_getElem_self]
            refine ⟨.int .i64 0, w, ?_, ?_, ?_⟩
            · simp [Builtin.copy_, h0, run_underlying ht, hlen, run_sizeOf' hsz, goInt]
              simp at v1
              rw [v1]
              simp [storeCells]
            · show WF P W bs σ (st.put o (.rows kd0 ep (rs.take off ++ new.take 0 ++ rs.drop (off + min new.length 0)))) w
              rw [hrs, hsame]; exact h
            · show Rep P σ _ (.int .i64 ((min new.length 0 : Nat) : Int))
              simp
              exact .int _ _
          · have hoo' := hoo hcp
            have hlr : (rs.take off ++ new.take len ++ rs.drop (off + min new.length len)).length = rs.length := by simp; omega
            obtain ⟨b1, b2, b3⟩ := h.writeRows (x := base' + off * szk kd0) (vs := vs.toList) (rs' := rs.take off ++ new.take len ++ rs.drop (off + min new.length len)) (ep' := ep) (base' := base') (σ' := σ) ho hR (Nat.le_add_right _ _) g3 (by simpa using hle2) (Nat.le_refl _) (.inl ⟨rfl, rfl, rfl⟩)
              (fun r hr => by
                rcases List.mem_append.1 hr with hr | hr
                · rcases List.mem_append.1 hr with hr | hr
                  · exact hrl r (List.mem_of_mem_take hr)
                  · exact v3.len r hr
                · exact hrl r (List.mem_of_mem_drop hr)) (by rw [hlr]; exact hfit)
              (by
                have := cells_written h ho hR (p := off) (off := 0) (rs' := rs.take off ++ new.take len ++ rs.drop (off + min new.length len)) v3 (by rw [v2, hnl]) g3 hle2 (fun i r hi => by
                  rw [Nat.zero_add]
                  rw [← hnl] at hi
                  exact List.splice_get (by omega) hi)
                simpa using this)
            refine ⟨.int .i64 (min new.length len : Nat), _, ?_, b2, .int _ _⟩
            have hst := run_storeIn (P := P) g3 (x := base' + off * szk kd0) (vs := vs.toList) (by simpa using hle2) (fun k hk1 hk2 => frozen_free g3 hfz0 (by omega)) (v3.ones (by rw [v2, hnl]))
            have hmin : Nat.min new.length len = min new.length len := rfl
            simp [Builtin.copy_, h0, run_underlying ht, hlen, run_sizeOf' hsz, goInt, hmin, v1, hoo', hst]
        · simp at h3
      · simp at h3
    · simp at h3
  · simp at hc

theorem sim_range {t : TypeId} {x : Value} {xa : AV} {r : AV × St} (h : WF P W bs σ st w) (hx : Rep P σ x xa) (hr : rangeA P st t xa = some r) :
    ∃ v w' σ', (Instr.range t x).run P w = .ok v w' ∧ σ.Le σ' ∧ WF P W bs σ' r.2 w' ∧ Rep P σ' v r.1 := by
  unfold rangeA at hr
  split at hr
  · rename_i s ht
    cases hr
    cases hx with
    | str s =>
    have hl := σ.le_setB (b := w.heap.size) (h.idB st.length (Nat.le_refl _))
    have hB : (σ.setB st.length w.heap.size).B st.length = some w.heap.size := by
      show (if _ then _ else _) = _
      rw [if_pos rfl]
    have hrun : (Instr.range t (.string s)).run P w = .ok (.pointer (some ⟨w.heap.size, 0, none⟩)) (w.alloc (.stringIter s 0)) := by simp [Instr.range, run_underlying ht]
    refine ⟨_, _, _, hrun, hl, ?_, .it _ _ hB⟩
    refine h.step (o := st.length) (x := .iter s.data.toList 0) (T := w.heap.size) hl (h.below.alloc (Nat.le_trans h.bsle h.size) _) (fun p hp => by rw [St.get_cons, if_neg hp]) (by rw [St.get_cons, if_pos rfl]) (by simp)
      (fun b _ hb => heap_alloc_lt w _ hb) (fun p y _ hp => unowned h (Nat.le_refl _) p y hp) (fun _ _ _ hv => .inl hv)
      (fun i v hv => absurd (h.imm _ _ _ hv).1 (fun hh => by have := lt_of_cell hh; omega)) (fun _ _ hy => .inl hy) (fun y hy => absurd (h.shp _ _ hy) (fun hh => by have := lt_of_shape hh; omega))
      (fun _ _ _ hy => .inl hy) (fun o' y hy => ?_) (fun _ _ _ _ hy => .inl hy) ?_ trivial (fun b hb => ?_)
    · change (if o' = st.length then some w.heap.size else σ.B o') = some y at hy
      split at hy
      · right; assumption
      · left; exact hy
    · exact ⟨w.heap.size, s, hB, Nat.le_trans h.bsle h.size, heap_alloc_new w _, rfl⟩
    · rw [show (σ.setB st.length w.heap.size).B st.length = some b from hb] at hB
      exact Option.some.inj hB
  · simp at hr

theorem heap_set_at (w : World) (b : Nat) (o : Obj) (h : b < w.heap.size) : ({ w with heap := w.heap.setIfInBounds b o } : World).heap[b]? = some o := by
  simp [h]
theorem heap_set_ne (w : World) (b b' : Nat) (o : Obj) (h : b' ≠ b) : ({ w with heap := w.heap.setIfInBounds b o } : World).heap[b']? = w.heap[b']? := by
  simp [Array.getElem?_setIfInBounds_ne (fun e => h e.symm)]

/-- The object of a block that is no row of cells is turned. -/
theorem WF.setObj (h : WF P W bs σ st w) {o b : Nat} {x x' : AObj} {ob : Obj} (hx : st.get o = some x) (hown : owns σ o x b) (hbs : bs ≤ b) (hb : b < w.heap.size) (hno : ∀ cs e fz, w.heap[b]? ≠ some (.cells cs e fz))
    (hok : ObjOk P bs σ { w with heap := w.heap.setIfInBounds b ob } o x') (hfr : Fresh σ o x') (hown' : ∀ b', owns σ o x' b' → b' = b) (hbel : Below bs W { w with heap := w.heap.setIfInBounds b ob }) :
    WF P W bs σ (st.put o x') { w with heap := w.heap.setIfInBounds b ob } := by
  refine h.step (o := o) (x := x') (T := b) (.refl σ) hbel (fun p hp => St.get_put_ne hp) (St.get_put_same (St.get_lt hx)) (by simp) (fun b' hb' _ => heap_set_ne w b b' ob hb')
    (fun p y hp hy ho => hp (h.sep p o y x b hy hx ho hown)) (fun _ _ _ hv => .inl hv) (fun i v hv => ?_) (fun _ _ hy => .inl hy) (fun y hy => ?_) (fun _ _ _ hy => .inl hy) (fun _ _ hy => .inl hy) (fun _ _ _ _ hy => .inl hy) hok hfr hown'
  · have := (h.imm _ _ _ hv).1
    unfold World.cell? at this
    split at this
    · rename_i cs e fz heq; exact absurd heq (hno _ _ _)
    · simp at this
  · have := h.shp _ _ hy
    unfold World.shape? at this
    split at this
    · rename_i cs e fz heq; exact absurd heq (hno _ _ _)
    · simp at this

theorem sim_next {ty : TypeId} {x : Value} {xa : AV} {isStr : Bool} {r : AV × St} (h : WF P W bs σ st w) (hx : Rep P σ x xa) (hr : nextA st isStr xa = some r) :
    ∃ v w', (Instr.next x isStr ty).run P w = .ok v w' ∧ WF P W bs σ r.2 w' ∧ Rep P σ v r.1 := by
  unfold nextA at hr
  split at hr
  · rename_i o
    split at hr
    · rename_i s pos ho
      cases hx with
      | it b _ hB =>
      obtain ⟨b', s', h1, hbs, h3, rfl⟩ := h.obj _ _ ho
      rw [hB] at h1; cases h1
      have hsz : s'.data.toList.length = s'.size := rfl
      have hs' : (⟨s'.data.toList.toArray⟩ : ByteArray) = s' := rfl
      split at hr
      · rename_i hlt
        rw [hs'] at hr
        cases hr
        have hlt' : pos < s'.size := hlt
        refine ⟨.tuple #[.bool true, .int .i64 pos, .int .i32 (Utf8.decode s' pos).1], { w with heap := w.heap.setIfInBounds b (.stringIter s' (pos + (Utf8.decode s' pos).2)) }, ?_, ?_, ?_⟩
        · simp only [Instr.next, getObj, setObj, Sem.run_bind, Sem.run, h3, Result.andThen, hlt', if_true]
          simp [goInt, Sem.run]
        · refine h.setObj ho hB hbs (lt_of_heap h3) (fun cs e fz hh => by rw [h3] at hh; simp at hh) ⟨b, s', hB, hbs, heap_set_at w b _ (lt_of_heap h3), rfl⟩ trivial (fun b' hb' => ?_) ?_
          · rw [show σ.B o = some b' from hb'] at hB; exact Option.some.inj hB
          · exact ⟨h.below.os, h.below.tape, h.below.output, by simpa using h.below.size, fun k hk => by rw [heap_set_ne w b k _ (by omega)]; exact h.below.block k hk⟩
        · refine .tup _ _ rfl (fun j v a h1 h2 => ?_)
          match j, h1, h2 with
          | 0, h1, h2 => simp at h1 h2; subst h1 h2; exact .bool _
          | 1, h1, h2 => simp at h1 h2; subst h1 h2; exact .int _ _
          | 2, h1, h2 => simp at h1 h2; subst h1 h2; exact .int _ _
          | j + 3, h1, h2 => simp at h1
      · rename_i hlt
        cases hr
        have hlt' : ¬ pos < s'.size := hlt
        refine ⟨.tuple #[.bool false], w, by simp [Instr.next, getObj, Sem.run, h3, hlt'], h, .tup _ _ rfl (fun j v a h1 h2 => ?_)⟩
        match j, h1, h2 with
        | 0, h1, h2 => simp at h1 h2; subst h1 h2; exact .bool _
        | j + 1, h1, h2 => simp at h1
    · simp at hr
  · simp at hr
end
end Go.Abs

/- The interpreter by value: bytes and texts, what is made immutable, conversions. -/
namespace Go.Abs
open Go Go.RowKit
set_option linter.unusedVariables false
set_option linter.unusedSimpArgs false

section
variable {P : Program} {W : World} {bs : Nat} {σ : Gh} {st : St} {w : World}

theorem bytesOf_spec : ∀ {rows : List (List AV)} {vs : List Value} {bs : List UInt8}, vs.length = rows.length →
    (∀ (i : Nat) r a, rows[i]? = some r → r[0]? = some a → ∃ v, vs[i]? = some v ∧ Rep P σ v a) → bytesOfRows rows = some bs →
    ∃ ns : List Int, vs = ns.map (Value.int .u8) ∧ bs = ns.map fun n => UInt8.ofNat n.toNat
  | [], vs, bs, hl, _, h => by
    simp [bytesOfRows] at h
    subst h
    have : vs = [] := List.length_eq_zero_iff.1 (by simpa using hl)
    exact ⟨[], by simp [this], rfl⟩
  | r :: rows, vs, bs, hl, hr, h => by
    unfold bytesOfRows at h
    split at h
    · rename_i heq; simp at heq
    · rename_i n rest heq
      cases heq
      obtain ⟨bs', hb, rfl⟩ := Option.map_eq_some_iff.1 h
      obtain ⟨v, hv, hrep⟩ := hr 0 _ (.int .u8 n) rfl rfl
      cases vs with
      | nil => simp at hv
      | cons u vs =>
        simp at hv; subst hv
        cases hrep
        obtain ⟨ns, rfl, rfl⟩ := bytesOf_spec (vs := vs) (by simpa using hl) (fun i r a h1 h2 => by
          obtain ⟨v, hv, h3⟩ := hr (i + 1) r a (by simpa using h1) h2
          exact ⟨v, by simpa using hv, h3⟩) hb
        exact ⟨n :: ns, rfl, rfl⟩
    · simp at h

theorem fold_push : ∀ (ns : List Int) (s : ByteArray), (ns.foldl (fun r n => r.push (UInt8.ofNat n.toNat)) s).data.toList = s.data.toList ++ ns.map fun n => UInt8.ofNat n.toNat
  | [], s => by simp
  | n :: ns, s => by
    simp only [List.foldl_cons, List.map_cons]
    rw [fold_push ns]
    simp [ByteArray.push]

theorem RowsIn.bytes {vs : Array Value} {rows : List (List AV)} {l : List UInt8} (h : RowsIn P σ vs 0 rows) (hs : vs.size = rows.length * szk 0) (hb : bytesOfRows rows = some l) :
    ∃ ns : List Int, vs = (ns.map (Value.int .u8)).toArray ∧ l = ns.map fun n => UInt8.ofNat n.toNat := by
  obtain ⟨ns, h1, h2⟩ := bytesOf_spec (P := P) (σ := σ) (vs := vs.toList) (by simp [hs, szk]) (fun i r a h1 h2 => by
    obtain ⟨v, hv, _, h3⟩ := h.cell i r 0 a h1 h2
    exact ⟨v, by simpa [szk] using hv, h3⟩) hb
  exact ⟨ns, by rw [← h1], h2⟩

theorem sim_bytesToString {xv : Value} {x : AV} {rows : List (List AV)} {l : List UInt8} (h : WF P W bs σ st w) (hx : Rep P σ xv x) (hr : Go.Abs.rowsOf st 0 x = some rows) (hns : ∀ s, x ≠ .str s) (hb : bytesOfRows rows = some l) :
    ∃ v, (Conv.bytesToString xv).run P w = .ok v w ∧ Rep P σ v (.str l) := by
  obtain ⟨hlen, hrows⟩ := sim_rows h hx hr
  obtain ⟨vs, v1, v2, v3⟩ := hrows rows.length (Nat.le_refl _)
  rw [List.take_of_length_le (Nat.le_refl _)] at v3
  obtain ⟨ns, rfl, rfl⟩ := v3.bytes v2 hb
  have fin : ∀ (s : ByteArray) (l : List UInt8), s.data.toList = l → Rep P σ (.string s) (.str l) := fun s l e => by subst e; exact .str s
  have key : ∀ (b : Addr) (len c : Nat), xv = .slice (some b) len c → ∃ v, (Conv.bytesToString xv).run P w = .ok v w ∧ Rep P σ v (.str (ns.map fun n => UInt8.ofNat n.toNat)) := fun b len c e => by
    subst e
    have hl : len = rows.length := by
      have : (Builtin.lenOf (.slice (some b) len c)).run P w = .ok len w := rfl
      rw [this] at hlen
      simpa using hlen
    subst hl
    have v1' : (loadCells b rows.length).run P w = .ok (ns.map (Value.int .u8)).toArray w := by simpa [Builtin.firstCells, szk] using v1
    exact ⟨_, run_bytesToString w b rows.length c ns v1', fin _ _ (by rw [fold_push]; simp)⟩
  cases hx with
  | nils =>
    have hl0 : rows.length = 0 := by
      have : (Builtin.lenOf (.slice none 0 0)).run P w = .ok 0 w := rfl
      rw [this] at hlen
      simp at hlen
      exact hlen.symm ▸ rfl
    refine ⟨.string .empty, rfl, fin _ _ ?_⟩
    rw [hl0] at v2
    have : ns = [] := by
      have : ns.length = 0 := by simpa using v2
      exact List.length_eq_zero_iff.1 this
    subst this; rfl
  | slz a kd => exact key _ _ _ rfl
  | sl b o o0 len c kd rows' off tok => exact key _ _ _ rfl
  | ms b base kd oo o ep off len c cap => exact key _ _ _ rfl
  | str s => exact absurd rfl (hns _)
  | _ => simp [Go.Abs.rowsOf] at hr

/-! ### What is frozen -/
theorem freeze_heap {b o n : Nat} {cells : Array Value} {e : TypeId} {fz : Nat × Nat} (hn : 0 < n) (h : w.heap[b]? = some (.cells cells e fz)) :
    (w.freeze ⟨b, o, none⟩ n).heap[b]? = some (.cells cells e (if fz.1 == fz.2 then (o, o + n) else (min fz.1 o, max fz.2 (o + n)))) := by
  unfold World.freeze
  rw [if_neg (by omega)]
  simp only [Array.getElem?_modify, if_true, h, Option.map_some]
theorem freeze_ne {b o n b' : Nat} (h : b' ≠ b) : (w.freeze ⟨b, o, none⟩ n).heap[b']? = w.heap[b']? := by
  unfold World.freeze
  split
  · rfl
  · simp only [Array.getElem?_modify]
    rw [if_neg (fun e => h e.symm)]

theorem freeze_cell {b o n b' i : Nat} : (w.freeze ⟨b, o, none⟩ n).cell? ⟨b', i, none⟩ = w.cell? ⟨b', i, none⟩ := by
  rcases Nat.eq_zero_or_pos n with rfl | hn
  · rfl
  by_cases hb : b' = b
  · subst hb
    cases hh : w.heap[b']? with
    | none =>
      have : (w.freeze ⟨b', o, none⟩ n).heap[b']? = none := by
        unfold World.freeze; rw [if_neg (by omega)]; simp [Array.getElem?_modify, hh]
      simp [World.cell?, hh, this]
    | some ob =>
      cases ob with
      | cells cs e fz => simp [World.cell?, hh, freeze_heap hn hh]
      | _ =>
        have : (w.freeze ⟨b', o, none⟩ n).heap[b']? = w.heap[b']? := by
          unfold World.freeze; rw [if_neg (by omega)]; simp [Array.getElem?_modify, hh]
        simp [World.cell?, this]
  · exact cell_of_heap (freeze_ne hb) i
theorem freeze_shape {b o n b' : Nat} : (w.freeze ⟨b, o, none⟩ n).shape? b' = w.shape? b' := by
  rcases Nat.eq_zero_or_pos n with rfl | hn
  · rfl
  by_cases hb : b' = b
  · subst hb
    cases hh : w.heap[b']? with
    | none =>
      have : (w.freeze ⟨b', o, none⟩ n).heap[b']? = none := by
        unfold World.freeze; rw [if_neg (by omega)]; simp [Array.getElem?_modify, hh]
      simp [World.shape?, hh, this]
    | some ob =>
      cases ob with
      | cells cs e fz => simp [World.shape?, hh, freeze_heap hn hh]
      | _ =>
        have : (w.freeze ⟨b', o, none⟩ n).heap[b']? = w.heap[b']? := by
          unfold World.freeze; rw [if_neg (by omega)]; simp [Array.getElem?_modify, hh]
        simp [World.shape?, this]
  · exact shape_of_heap (freeze_ne hb)

theorem Below.freezeAt {b o n : Nat} (h : Below bs W w) (hb : bs ≤ b) : Below bs W (w.freeze ⟨b, o, none⟩ n) := by
  refine ⟨?_, ?_, ?_, ?_, fun k hk => by rw [freeze_ne (by omega)]; exact h.block k hk⟩
  · unfold World.freeze; split <;> exact h.os
  · unfold World.freeze; split <;> exact h.tape
  · unfold World.freeze; split <;> exact h.output
  · unfold World.freeze; split
    · exact h.size
    · simpa using h.size

theorem Loose.freeze {b o n b' s : Nat} (hn : 0 < n) (hI : ∀ j, j < n → (σ.I b (o + j)).isSome = true) (h : Loose σ w b' s) : Loose σ (w.freeze ⟨b, o, none⟩ n) b' s := by
  obtain ⟨h1, cells, e, fz, h2, h3⟩ := h
  refine ⟨h1, ?_⟩
  by_cases hb : b' = b
  · subst hb
    have hs : o + n ≤ s := by
      rcases Nat.lt_or_ge (o + (n - 1)) s with hlt | hge
      · omega
      · have := hI (n - 1) (by omega)
        rw [h1 _ hge] at this; simp at this
    refine ⟨cells, e, _, freeze_heap hn h2, ?_⟩
    right
    split
    · exact hs
    · rename_i hne
      rcases h3 with h3 | h3
      · simp [h3] at hne
      · exact Nat.max_le.2 ⟨h3, hs⟩
  · exact ⟨cells, e, fz, by rw [freeze_ne hb]; exact h2, h3⟩

theorem WF.freeze (h : WF P W bs σ st w) {b o n : Nat} (hb : bs ≤ b) (hn : 0 < n) (hI : ∀ j, j < n → (σ.I b (o + j)).isSome = true) : WF P W bs σ st (w.freeze ⟨b, o, none⟩ n) := by
  have hI0 := hI 0 hn
  obtain ⟨v0, hv0⟩ := Option.isSome_iff_exists.1 hI0
  have hcell := (h.imm _ _ _ hv0).1
  refine ⟨Below.freezeAt h.below hb, h.bsle, fun b' i v hv => by rw [freeze_cell]; exact h.imm _ _ _ hv, fun b' y hy => by rw [freeze_shape]; exact h.shp _ _ hy, fun p y hp => ?_, h.fresh, h.sep, h.idR, h.idB, h.idL, h.lo⟩
  have ho := h.obj p y hp
  have other : ∀ {b' : Nat} {ob : Obj}, w.heap[b']? = some ob → (∀ cs e fz, ob ≠ .cells cs e fz) → (w.freeze ⟨b, o, none⟩ n).heap[b']? = some ob := fun {b' ob} hh hne => by
    by_cases e : b' = b
    · subst e
      unfold World.cell? at hcell
      rw [show w.heap[(⟨b', o + 0, none⟩ : Addr).block]? = some ob from hh] at hcell
      cases ob with
      | cells cs e fz => exact absurd rfl (hne _ _ _)
      | _ => simp at hcell
    · rw [freeze_ne e]; exact hh
  cases y with
  | free ep => trivial
  | box ty row =>
    obtain ⟨b', vs, h1, h2, h3, h4, h5⟩ := ho
    have hne : b' ≠ b := fun e => by subst e; rw [h3] at hI0; simp at hI0
    exact ⟨b', vs, h1, h2, h3, by rw [freeze_ne hne]; exact h4, h5⟩
  | rows kd ep rs =>
    obtain ⟨b', base, h1, h2, h3, h4, h5, h6⟩ := ho
    refine ⟨b', base, h1, h2, h3.freeze hn hI, h4, h5, fun i r j a q1 q2 => ?_⟩
    rw [freeze_cell]; exact h6 i r j a q1 q2
  | spare ep k =>
    obtain ⟨b', s, h1, h2, h3⟩ := ho
    exact ⟨b', s, h1, h2, h3.freeze hn hI⟩
  | iter s pos =>
    obtain ⟨b', s', h1, h2, h3, h4⟩ := ho
    exact ⟨b', s', h1, h2, other h3 (fun _ _ _ => by simp), h4⟩
  | amap es =>
    obtain ⟨b', ents, clock, h1, h2, h3, h4⟩ := ho
    exact ⟨b', ents, clock, h1, h2, other h3 (fun _ _ _ => by simp), h4⟩
end
end Go.Abs

/- The interpreter by value: conversions, slices that are made, what is made immutable. -/
namespace Go.Abs
open Go Go.RowKit
set_option linter.unusedVariables false
set_option linter.unusedSimpArgs false

section
variable {P : Program} {W : World} {bs : Nat} {σ : Gh} {st : St} {w : World}

theorem run_viewAt {b : Nat} {y : TypeId × Nat} (h : w.shape? b = some y) : (viewAt b).run P w = .ok none w := by
  simp [viewAt, h]
theorem run_seenAt {a : Addr} {y : TypeId × Nat} (h : w.shape? a.block = some y) : (Conv.seenAt a).run P w = .ok a w := by
  simp [Conv.seenAt, run_viewAt h]
theorem run_cellsIn {b : Nat} {y : TypeId × Nat} (h : w.shape? b = some y) : (cellsIn b).run P w = .ok (some y.2) w := by
  simp [cellsIn, h]

theorem RowsIn.ofBytes (s : ByteArray) (rest : Array Value) : RowsIn P σ ((s.data.map fun b => Value.int .u8 b.toNat) ++ rest) 0 (s.data.toList.map fun b => [AV.int .u8 b.toNat]) := by
  refine ⟨by simp [szk], fun r hr => ?_, fun i r j a h1 h2 => ?_⟩
  · obtain ⟨b, _, rfl⟩ := List.mem_map.1 hr; rfl
  · rw [List.getElem?_map] at h1
    obtain ⟨b, hb, rfl⟩ := Option.map_eq_some_iff.1 h1
    cases j with
    | succ j => simp at h2
    | zero =>
      simp at h2; subst h2
      refine ⟨.int .u8 b.toNat, ?_, rfl, .int _ _⟩
      have hb' : s.data[i]? = some b := by simpa using hb
      have hi : i < s.data.size := (Array.getElem?_eq_some_iff.1 hb').1
      simp only [szk, if_true, Nat.mul_one, Nat.add_zero]
      rw [Array.getElem?_append_left (by simpa using hi), Array.getElem?_map, hb']
      rfl

/-- A block that nobody may write to is frozen, or marked. -/
theorem WF.freezeOwnless (h : WF P W bs σ st w) {b o n : Nat} (hb : bs ≤ b) (hno : ∀ p y, st.get p = some y → ¬ owns σ p y b) : WF P W bs σ st (w.freeze ⟨b, o, none⟩ n) :=
  h.still (T := b) (.refl σ) (Below.freezeAt h.below hb) (fun b' hb' _ => freeze_ne hb') hno (fun _ _ _ hv => .inl hv) (fun i v hv => by rw [freeze_cell]; exact h.imm _ _ _ hv) (fun _ _ hy => .inl hy)
    (fun y hy => by rw [freeze_shape]; exact h.shp _ _ hy) rfl rfl rfl

theorem sim_stringToBytes {e : TypeId} (s : ByteArray) (h : WF P W bs σ st w) (hu : ByteT P e) :
    ∃ v w' σ', (Conv.stringToBytes e s).run P w = .ok v w' ∧ σ.Le σ' ∧ WF P W bs σ' st w' ∧ Rep P σ' v (.sl 0 (s.data.toList.map fun b => [AV.int .u8 b.toNat]) 0 s.data.toList.length .no) := by
  have hsz : s.data.toList.length = s.size := rfl
  have hge : s.size ≤ grownCap w s.size 0 e := by simp [grownCap, Question.cut]
  generalize hvs : (s.data.map fun b => Value.int .u8 b.toNat) ++ Array.replicate (grownCap w s.size 0 e - s.size) (Value.int .u8 0) = vs
  have hvl : vs.size = grownCap w s.size 0 e := by
    rw [← hvs]; simp
    have : s.data.size = s.size := rfl
    omega
  have hr : RowsIn P σ vs 0 (s.data.toList.map fun b => [AV.int .u8 b.toNat]) := by rw [← hvs]; exact .ofBytes s _
  have hl : (s.data.toList.map fun b => [AV.int .u8 b.toNat]).length = s.size := by rw [List.length_map, hsz]
  have h1 := Gh.le_newRows h.drew vs e ((s.data.toList.map fun b => [AV.int .u8 b.toNat]).length * szk 0)
  have h2 := h.drew.newRows (e := e) hr
  have h3 : Rep P _ (.slice (some ⟨w.drew.heap.size, 0, none⟩) s.size (grownCap w s.size 0 e)) (.sl 0 (s.data.toList.map fun b => [AV.int .u8 b.toNat]) 0 s.size .no) :=
    rep_new (kd := 0) hr (fun _ => hu) (fun i => noI h.drew (Nat.le_refl _) i) (.refl _) h1 (by rw [hl]; exact Nat.le_refl _) (by rw [hl]; exact hge) (by simp [szk, hvl]) trivial
  have hno : ∀ p y, st.get p = some y → ¬ owns (σ.newRows w.drew.heap.size vs e ((s.data.toList.map fun b => [AV.int .u8 b.toNat]).length * szk 0)) p y w.heap.size := fun p y hp ho => by
    refine unowned h (Nat.le_refl _) p y hp ?_
    cases y <;> exact ho
  have hbs : bs ≤ w.heap.size := Nat.le_trans h.bsle h.size
  refine ⟨_, (w.drew.alloc (.cells vs e)).freeze ⟨w.heap.size, vs.size, none⟩ 1, _, ?_, h1, h2.freezeOwnless (b := w.heap.size) hbs hno, h3⟩
  have hshape := shape_new w.drew vs e
  rw [show w.drew.heap.size = w.heap.size from rfl] at hshape
  have hch : (choose (.appendCap s.size 0 e)).run P w = .ok (grownCap w s.size 0 e) w.drew := by simp [Question.forced, grownCap]
  have hnr : (newRow e vs).run P w.drew = .ok ⟨w.heap.size, 0, none⟩ (w.drew.alloc (.cells vs e)) := by simp [newRow]; rfl
  have hms : (markStringish ⟨w.heap.size, 0, none⟩).run P (w.drew.alloc (.cells vs e)) = .ok () ((w.drew.alloc (.cells vs e)).freeze ⟨w.heap.size, vs.size, none⟩ 1) := by
    simp only [markStringish, Sem.run_bind, run_shape, hshape, Result.andThen_ok, run_freeze]
  simp only [Conv.stringToBytes, Sem.run_bind, hch, Result.andThen_ok, hvs, hnr, hms, Sem.run_pure]
  rfl
end
end Go.Abs

/- The interpreter by value: conversions, slices that are made, what is made immutable. -/
namespace Go.Abs
open Go Go.RowKit
set_option linter.unusedVariables false
set_option linter.unusedSimpArgs false

section
variable {P : Program} {W : World} {bs : Nat} {σ : Gh} {st : St} {w : World}

theorem sim_conv {home : Option (Nat × Bool)} {src dst : TypeId} {x : Value} {xa : AV} {r : AV × St} (h : WF P W bs σ st w) (hx : Rep P σ x xa) (hc : convA P st home src dst xa = some r) :
    ∃ v w' σ', (convert src dst x).run P w = .ok v w' ∧ σ.Le σ' ∧ WF P W bs σ' r.2 w' ∧ Rep P σ' v r.1 := by
  unfold convA at hc
  split at hc
  · -- a pointer to unsafe.Pointer
    rename_i t hs hd
    split at hc
    · cases hc; cases hx
      exact ⟨_, w, σ, by simp [convert, Conv.unsafePointer, run_underlying hs, run_underlying hd], .refl _, h, .nilp⟩
    · rename_i o c
      split at hc
      · rename_i ty row ho
        split at hc
        · rename_i hlt
          obtain ⟨n, hn, h2⟩ := Option.bind_eq_some_iff.1 hc
          split at h2
          · simp at h2
          · rename_i hn0
            cases h2
            have hx' := hx
            cases hx with
            | bp b _ _ hB =>
            obtain ⟨b', vs, h1, hbs, hI, h4, h5, _⟩ := h.obj _ _ ho
            rw [hB] at h1; cases h1
            have hsh : w.shape? b = some (ty, vs.size) := by simp [World.shape?, h4]
            refine ⟨_, w, σ, ?_, .refl _, h, hx'⟩
            have hge : ¬ vs.size ≤ c := by omega
            simp [convert, Conv.unsafePointer, run_underlying hs, run_underlying hd, run_seenAt (a := ⟨b, c, none⟩) hsh, run_cellsIn hsh, run_sizeOf' hn, hn0, hge]
        · simp at hc
      · simp at hc
    · simp at hc
  · -- unsafe.Pointer to a pointer
    rename_i u hs hd
    split at hc
    · cases hc; cases hx
      exact ⟨_, w, σ, by simp [convert, Conv.unsafePointer, run_underlying hs, run_underlying hd], .refl _, h, .nilp⟩
    · rename_i o c
      split at hc
      · rename_i ty row ho
        split at hc
        · rename_i hcond
          obtain ⟨hu, hlies⟩ := hcond
          obtain ⟨n, hn⟩ := Option.isSome_iff_exists.1 hu
          cases hc
          have hx' := hx
          cases hx with
          | bp b _ _ hB =>
          obtain ⟨b', vs, h1, hbs, hI, h4, h5, _⟩ := h.obj _ _ ho
          rw [hB] at h1; cases h1
          have hsh : w.shape? b = some (ty, vs.size) := by simp [World.shape?, h4]
          have hva : (variablesAt ⟨b, c, none⟩ u 1).run P w = .ok true w := by
            simp [variablesAt, hsh, h5, hlies]
          refine ⟨_, w, σ, ?_, .refl _, h, hx'⟩
          simp [convert, Conv.unsafePointer, run_underlying hs, run_underlying hd, run_seenAt (a := ⟨b, c, none⟩) hsh, run_sizeOf' hn, hva]
        · simp at hc
      · simp at hc
    · simp at hc
  · rename_i ks kd hs hd
    split at hc
    · cases hc; cases hx
      exact ⟨_, w, σ, by simp [convert, Conv.intToInt, run_underlying hs, run_underlying hd], .refl _, h, .int _ _⟩
    · simp at hc
  · rename_i hs hd
    split at hc
    · cases hc
      have hx' := hx
      cases hx
      exact ⟨_, w, σ, by simp [convert, run_underlying hs, run_underlying hd], .refl _, h, hx'⟩
    · simp at hc
  · rename_i e hs hd
    split at hc
    · rename_i s he
      split at hc
      · split at hc
        · simp at hc
        · cases hc
          cases hx with
          | str s =>
          rename_i hc1 _
          obtain ⟨v, w', σ', h1, h2, h3, h4⟩ := sim_stringToBytes s h ⟨he, hc1⟩
          exact ⟨v, w', σ', by simp [convert, run_underlying hs, run_underlying hd, run_underlying he, h1], h2, h3, h4⟩
      · simp at hc
    · simp at hc
  · rename_i e hs hd
    split at hc
    · rename_i he
      split at hc
      · simp at hc
      · rename_i hns
        obtain ⟨rows, hr, h2⟩ := Option.bind_eq_some_iff.1 hc
        obtain ⟨l, hl, rfl⟩ := Option.map_eq_some_iff.1 h2
        obtain ⟨v, hv1, hv2⟩ := sim_bytesToString h hx hr (fun s e => by subst e; exact hns s rfl) hl
        refine ⟨v, w, σ, ?_, .refl _, h, hv2⟩
        cases hx with
        | str s => exact absurd rfl (hns s.data.toList)
        | nils => simp [convert, run_underlying hs, run_underlying hd, run_underlying he, hv1]
        | slz a kd => simp [convert, run_underlying hs, run_underlying hd, run_underlying he, hv1]
        | sl b o o0 len c kd rows' off tok => simp [convert, run_underlying hs, run_underlying hd, run_underlying he, hv1]
        | ms b base kd oo o ep off len c cap => simp [convert, run_underlying hs, run_underlying hd, run_underlying he, hv1]
        | _ => simp [Go.Abs.rowsOf] at hr
    · simp at hc
  · simp at hc

/-- Rows in a new block, in a new object. -/
theorem sim_pushRows {kd : Nat} {rows : List (List AV)} {vs : Array Value} {e : TypeId} (hw : WF P W bs σ st w) (hr : RowsIn P σ vs kd rows) (hu : kd = 0 → ByteT P e) :
    ∃ σ', σ.Le σ' ∧ WF P W bs σ' (.rows kd 0 rows :: st) (w.alloc (.cells vs e)) ∧ σ'.R st.length 0 = some (w.heap.size, 0, kd) ∧ σ'.sh w.heap.size = some (e, vs.size) := by
  have l1 := Gh.le_setSh σ (b := w.heap.size) (x := (e, vs.size)) (fun y hy => by rw [noSh hw (Nat.le_refl _)] at hy; simp at hy)
  have l2 := Gh.le_setR (σ.setSh w.heap.size (e, vs.size)) (o := st.length) (ep := 0) (x := (w.heap.size, 0, kd)) (hw.idR _ _ (Nat.le_refl _))
  have hR : ((σ.setSh w.heap.size (e, vs.size)).setR st.length 0 (w.heap.size, 0, kd)).R st.length 0 = some (w.heap.size, 0, kd) := by
    show (if _ then _ else _) = _
    rw [if_pos ⟨rfl, rfl⟩]
  have hS : ((σ.setSh w.heap.size (e, vs.size)).setR st.length 0 (w.heap.size, 0, kd)).sh w.heap.size = some (e, vs.size) := by
    show (if _ then _ else _) = _
    rw [if_pos rfl]
  refine ⟨_, l1.trans l2, ?_, hR, hS⟩
  refine hw.step (o := st.length) (x := .rows kd 0 rows) (T := w.heap.size) (l1.trans l2) (hw.below.alloc (Nat.le_trans hw.bsle hw.size) _) (fun p hp => by rw [St.get_cons, if_neg hp]) (by rw [St.get_cons, if_pos rfl]) (by simp)
    (fun b _ hb => heap_alloc_lt w _ hb) (fun p y _ hp => unowned hw (Nat.le_refl _) p y hp) (fun _ _ _ hv => .inl hv)
    (fun i v hv => absurd (hw.imm _ _ _ hv).1 (fun hh => by have := lt_of_cell hh; omega)) (fun b' y hy => ?_) (fun y hy => ?_) (fun o' e' y hy => ?_) (fun _ _ hy => .inl hy) (fun _ _ _ _ hy => .inl hy) ?_ ?_ (fun b hb => ?_)
  · change (if b' = w.heap.size then some _ else _) = some y at hy
    split at hy
    · right; assumption
    · left; exact hy
  · rw [hS] at hy
    cases hy
    exact shape_new w vs e
  · change (if o' = st.length ∧ e' = 0 then some _ else _) = some y at hy
    split at hy
    · rename_i hcc; exact .inr hcc.1
    · exact .inl hy
  · refine ⟨w.heap.size, 0, hR, Nat.le_trans hw.bsle hw.size, ⟨fun i _ => noI hw (Nat.le_refl _) i, vs, e, (0, 0), heap_alloc_new w _, .inl rfl⟩, ⟨e, vs.size, hS, by have := hr.size; omega, hu⟩, hr.len, fun i r j a h1 h2 => ?_⟩
    obtain ⟨v, hv, hv1, hv2⟩ := hr.cell i r j a h1 h2
    exact ⟨v, by rw [cell_new, Nat.zero_add]; exact hv, hv1, hv2.mono (l1.trans l2)⟩
  · refine ⟨fun e' he => ?_, fun e' n he => hw.idL _ e' n (Nat.le_refl _)⟩
    change (if st.length = st.length ∧ e' = 0 then some _ else σ.R st.length e') = none
    rw [if_neg (by omega)]; exact hw.idR _ e' (Nat.le_refl _)
  · obtain ⟨y, hy⟩ := hb
    rw [hR] at hy
    cases hy; rfl

theorem _root_.Go.Abs.Rep.ms_shape {v : Value} {o ep off len cap : Nat} (h : Rep P σ v (.ms o ep off len cap)) {b oo l c : Nat} (hv : v = .slice (some ⟨b, oo, none⟩) l c) :
    ∃ base kd, σ.R o ep = some (b, base, kd) ∧ cap ≤ c ∧ (0 < c → oo = base + off * szk kd) ∧ Shaped P σ b kd (if c = 0 then 0 else oo + c * szk kd) := by
  cases h with
  | ms b base kd oo o ep off len c cap hR hcap hlen ho hsh =>
    cases hv
    exact ⟨base, kd, hR, hcap, ho, hsh⟩
theorem sim_makeSlice {home : Option (Nat × Bool)} {t : TypeId} {lv cv : Value} {l c : AV} {r : AV × St} (h : WF P W bs σ st w) (hl : Rep P σ lv l) (hc : Rep P σ cv c) (hm : makeSliceA P st home t l c = some r) :
    ∃ v w' σ', (Instr.makeSlice t lv cv).run P w = .ok v w' ∧ σ.Le σ' ∧ WF P W bs σ' r.2 w' ∧ Rep P σ' v r.1 := by
  unfold makeSliceA at hm
  split at hm
  · rename_i e l c ht
    cases hl; cases hc
    obtain ⟨i, hi, h2⟩ := Option.bind_eq_some_iff.1 hm
    obtain ⟨kd, hk, h3⟩ := Option.bind_eq_some_iff.1 h2
    obtain ⟨z, hz, h4⟩ := Option.bind_eq_some_iff.1 h3
    clear hm h2 h3
    split at h4
    · rename_i hcond
      obtain ⟨q1, q2, q3, q4, q5, q6⟩ := hcond
      unfold roomA at q3 q4
      obtain ⟨hsz, hu⟩ := kdOf_sz hk
      have hisz := (info_size hi hk).1
      have hzw : ∃ zv, i.zero = some zv ∧ Rep P σ zv z := by
        unfold zeroA at hz
        obtain ⟨i', hi', h2⟩ := Option.bind_eq_some_iff.1 hz
        rw [hi] at hi'
        cases hi'
        obtain ⟨v, hv, h3⟩ := Option.bind_eq_some_iff.1 h2
        exact ⟨v, hv, ofVal_rep 4 v z h3⟩
      obtain ⟨zv, hz1, hz2⟩ := hzw
      have hzc := hz2.cells q6
      have hr0 := zero_rows (P := P) (σ := σ) (len := c.toNat) hzc q5
      have hcn : (c.toNat : Int) = c := Int.toNat_of_nonneg (by omega)
      have hbytes : (i.bytes : Int) * c ≤ 281474976710656 := by
        have : ((i.bytes : Int) * c) = ((c.toNat * i.bytes : Nat) : Int) := by rw [← hcn, Nat.mul_comm]; simp
        rw [this]; omega
      have hrun := run_make (P := P) w t e i zv ht hi hz1 .i64 .i64 l c q1 q2 hbytes (by omega)
      rw [hisz] at hrun
      generalize hvs : madeCells zv.cells (c.toNat * szk kd) = vs at hrun
      have hvl : vs.size = c.toNat * szk kd := by rw [← hvs, size_madeCells]
      have hr : RowsIn P σ vs kd (List.replicate c.toNat z.cells) := by rw [← hvs]; exact hr0
      split at h4
      · rename_i hh
        obtain ⟨r', hr', h5⟩ := Option.bind_eq_some_iff.1 h4
        clear h4
        obtain ⟨σ', b1, b2, b3⟩ := sim_home (e := e) (c := c.toNat) h hr' hr hu (by simp) (by omega)
        split at h5
        · rename_i o ep off x cap heq
          cases h5
          rw [heq] at b3
          refine ⟨_, _, σ', hrun, b1, b2, ?_⟩
          have hlc : l.toNat ≤ c.toNat := by omega
          have hcapeq : cap = c.toNat := by
            obtain ⟨x0, e0, _, _, he⟩ := homeA_spec hr'
            rw [he] at heq
            simp at heq
            omega
          subst hcapeq
          obtain ⟨base, kd', p1, p2, p4, p5⟩ := b3.ms_shape rfl
          exact .ms _ base kd' _ _ _ _ _ _ _ p1 p2 hlc p4 p5
        · simp at h5
      · rename_i hh
        split at h4
        · rename_i hl0
          subst hl0
          obtain ⟨σ', b1, b2, b3⟩ := sim_home (e := e) (c := c.toNat) (rows := []) (kd := kd) (vs := vs) h h4 ⟨by simp, by simp, by simp⟩ hu (by simp) (by omega)
          exact ⟨_, _, σ', hrun, b1, b2, b3⟩
        · simp at h4
      · cases h4
        obtain ⟨σ', b1, b2, b3, b4⟩ := sim_pushRows (e := e) h hr hu
        refine ⟨_, _, σ', hrun, b1, b2, ?_⟩
        refine .ms w.heap.size 0 kd 0 st.length 0 0 l.toNat c.toNat c.toNat b3 (Nat.le_refl _) (by omega) (fun _ => by simp) ⟨e, vs.size, b4, ?_, hu⟩
        split
        · exact Nat.zero_le _
        · omega
    · simp at h4
  · simp at hm

/-- Rows that may be written are made immutable. -/
theorem sim_freeze {v : Value} {a : AV} {r : AV × St} (h : WF P W bs σ st w) (hv : Rep P σ v a) (hf : freezeA st a = some r) : ∃ σ', σ.Le σ' ∧ WF P W bs σ' r.2 w ∧ Rep P σ' v r.1 := by
  unfold freezeA at hf
  split at hf
  · rename_i o ep off len cap
    split at hf
    · rename_i kd ep' rs ho
      split at hf
      · rename_i hcond
        obtain ⟨rfl, hle⟩ := hcond
        cases hf
        obtain ⟨b, base, cells, ce, fz, g1, hbs, g3, hI, hfz0, hfit, hsh0, hs3⟩ := h.rowsOf ho
        obtain ⟨b9, base9, p1, _, _, _, hrl, hcell⟩ := h.obj _ _ ho
        rw [g1] at p1
        simp only [Option.some.injEq, Prod.mk.injEq, and_true] at p1
        obtain ⟨rfl, rfl⟩ := p1
        cases hv with
        | ms b' base' kd' oo _ _ _ _ c _ hR hcap hlen hoo hsh =>
        rw [hR] at g1
        simp only [Option.some.injEq, Prod.mk.injEq] at g1
        obtain ⟨rfl, rfl, rfl⟩ := g1
        have hmul : (off + len) * szk kd' ≤ rs.length * szk kd' := Nat.mul_le_mul_right _ hle
        have hcs : ∀ (k : Nat), ((cells.toList.drop base').take ((off + len) * szk kd'))[k]? = if k < (off + len) * szk kd' then cells[base' + k]? else none := fun k => by
          rw [List.getElem?_take]
          split
          · rw [List.getElem?_drop]; simp
          · rfl
        have hcl : ((cells.toList.drop base').take ((off + len) * szk kd')).length = (off + len) * szk kd' := by simp; omega
        have l1 := Gh.le_addI σ (b := b') (s := base') (vs := (cells.toList.drop base').take ((off + len) * szk kd')) (fun i hi _ => hI i hi)
        have hIv : ∀ b i, (σ.addI b' base' ((cells.toList.drop base').take ((off + len) * szk kd'))).I b i = if b = b' ∧ base' ≤ i ∧ i < base' + (off + len) * szk kd' then cells[i]? else σ.I b i := fun b i => by
          show (if b = b' ∧ base' ≤ i ∧ i < base' + ((cells.toList.drop base').take ((off + len) * szk kd')).length then ((cells.toList.drop base').take ((off + len) * szk kd'))[i - base']? else σ.I b i) = _
          rw [hcl]
          split
          · rename_i hc
            rw [hcs, if_pos (by omega)]
            congr 1; omega
          · rfl
        have hcell' : ∀ (i : Nat) r (j : Nat) a, rs[i]? = some r → r[j]? = some a → ∃ v, cells[base' + i * szk kd' + j]? = some v ∧ v.oneCell' = true ∧ Rep P σ v a := fun i r j a h1 h2 => by
          obtain ⟨v, q1, q2⟩ := hcell i r j a h1 h2
          simp only [World.cell?, g3, Option.isSome_none, Bool.false_eq_true, if_false] at q1
          exact ⟨v, q1, q2⟩
        refine ⟨_, l1, ?_, ?_⟩
        · refine h.step (o := o) (x := .free ep) (T := b') l1 h.below (fun p hp => St.get_put_ne hp) (St.get_put_same (St.get_lt ho)) (by simp) (fun _ _ _ => rfl)
            (fun p y hp hy hown => hp (h.sep p o y (.rows kd' ep rs) b' hy ho hown ⟨_, hR⟩)) (fun b i v hv => ?_) (fun i v hv => ?_) (fun _ _ hy => .inl hy) (fun y hy => h.shp _ _ hy) (fun _ _ _ hy => .inl hy) (fun _ _ hy => .inl hy) (fun _ _ _ _ hy => .inl hy)
            trivial (by have hf := h.fresh o _ ho; exact ⟨hf.1, hf.2⟩) (fun b hb => hb.elim)
          · rw [hIv] at hv
            split at hv
            · rename_i hc; exact .inr hc.1
            · exact .inl hv
          · rw [hIv] at hv
            split at hv
            · rename_i hc
              refine ⟨by simp only [World.cell?, g3, Option.isSome_none, Bool.false_eq_true, if_false]; exact hv, ?_⟩
              have hp := szk_pos kd'
              have hk : i - base' < rs.length * szk kd' := by omega
              have hq : (i - base') / szk kd' < rs.length := by rw [Nat.div_lt_iff_lt_mul hp]; exact hk
              have hm : (i - base') % szk kd' < szk kd' := Nat.mod_lt _ hp
              have hrl' := hrl _ (List.getElem_mem hq)
              obtain ⟨u, hu, h1, _⟩ := hcell' _ _ ((i - base') % szk kd') (rs[(i - base') / szk kd'][(i - base') % szk kd']'(by omega)) (List.getElem?_eq_getElem hq) (List.getElem?_eq_getElem (by omega))
              have e1 : base' + (i - base') / szk kd' * szk kd' + (i - base') % szk kd' = i := by rw [Nat.add_assoc, div_row]; omega
              rw [e1, hv] at hu
              cases hu; exact h1
            · exact h.imm _ _ _ hv
        · have hin : ∀ (i : Nat) r (j : Nat) a, (rs.take (off + len))[i]? = some r → r[j]? = some a → rs[i]? = some r ∧ i * szk kd' + j < (off + len) * szk kd' := fun i r j a h1 h2 => by
            rw [List.getElem?_take] at h1
            split at h1
            · rename_i hil
              have hj : j < szk kd' := by rw [← hrl r (List.mem_of_getElem? h1)]; exact (List.getElem?_eq_some_iff.1 h2).1
              have : i * szk kd' + szk kd' ≤ (off + len) * szk kd' := by rw [← Nat.succ_mul]; exact Nat.mul_le_mul_right _ hil
              exact ⟨h1, by omega⟩
            · simp at h1
          have htl : (rs.take (off + len)).length = off + len := by simp; omega
          refine .sl b' oo base' len c kd' (rs.take (off + len)) off .no (by omega) (fun r hr => hrl r (List.mem_of_mem_take hr)) (by omega) hoo (.inr ⟨ce, cells.size, hsh0, ?_, fun _ => hs3⟩) trivial (fun i r j a h1 h2 => ?_) (fun i r j a v h1 h2 h3 => ?_)
          · rw [htl]
            obtain ⟨se, sn, q1, q2, _⟩ := hsh
            rw [hsh0] at q1
            cases q1
            exact Nat.max_le.2 ⟨by omega, q2⟩
          · obtain ⟨k1, k2⟩ := hin i r j a h1 h2
            obtain ⟨u, hu, _⟩ := hcell' i r j a k1 h2
            rw [hIv, if_pos ⟨rfl, by omega, by omega⟩, hu]; rfl
          · obtain ⟨k1, k2⟩ := hin i r j a h1 h2
            obtain ⟨u, hu, _, hrep⟩ := hcell' i r j a k1 h2
            rw [hIv, if_pos ⟨rfl, by omega, by omega⟩, hu] at h3
            cases h3
            exact hrep.mono l1
      · simp at hf
    · simp at hf
  · cases hf
    exact ⟨σ, .refl _, h, hv⟩
end
end Go.Abs

/- The interpreter by value: maps. -/
namespace Go.Abs
open Go Go.RowKit
set_option linter.unusedVariables false
set_option linter.unusedSimpArgs false

section
variable {P : Program} {W : World} {bs : Nat} {σ : Gh} {st : St} {w : World}

theorem sim_keyFields (em : Bool) (n d : Nat) (ih : ∀ t v a, Rep P σ v a → keyOk P d t a = true → (Instr.checkKey em n t v).run P w = .ok () w) {cs : Array Value} {as : List AV}
    (hs : cs.size = as.length) (h1 : ∀ (j : Nat) v, cs[j]? = some v → v.oneCell' = true) (hR : ∀ (j : Nat) v a, cs[j]? = some v → as[j]? = some a → Rep P σ v a) :
    ∀ (fs : List Field), (fs.all fun f => f.name == "_" || (match partA P f.type as f.offset with | some x => keyOk P d f.type x | none => false)) = true →
    (forIn fs PUnit.unit (fun (f : Field) (_ : PUnit) => (if f.name ≠ "_" then do let v ← part f.type cs f.offset; Instr.checkKey em n f.type v; pure (ForInStep.yield PUnit.unit) else pure (ForInStep.yield PUnit.unit) : Sem (ForInStep PUnit)))).run P w = .ok PUnit.unit w
  | [], _ => rfl
  | f :: fs, h => by
    simp only [List.all_cons, Bool.and_eq_true] at h
    rw [List.forIn_cons]
    have tail := sim_keyFields em n d ih hs h1 hR fs h.2
    by_cases hn : f.name = "_"
    · simp only [hn, ne_eq, not_true_eq_false, if_false, Sem.run_bind, Sem.run_pure, Result.andThen_ok]
      simpa using tail
    · have h0 := h.1
      simp only [Bool.or_eq_true, beq_iff_eq, hn, false_or] at h0
      split at h0
      · rename_i x hx
        obtain ⟨v, hv, hr⟩ := sim_part (w := w) hs h1 hR hx
        have hc := ih _ _ _ hr h0
        simp only [ne_eq, hn, not_false_eq_true, if_true, Sem.run_bind, hv, hc, Sem.run_pure, Result.andThen_ok]
        simpa using tail
      · simp at h0

theorem sim_keyElems (em : Bool) (n d : Nat) (ih : ∀ t v a, Rep P σ v a → keyOk P d t a = true → (Instr.checkKey em n t v).run P w = .ok () w) {cs : Array Value} {as : List AV}
    (hs : cs.size = as.length) (h1 : ∀ (j : Nat) v, cs[j]? = some v → v.oneCell' = true) (hR : ∀ (j : Nat) v a, cs[j]? = some v → as[j]? = some a → Rep P σ v a) {e : TypeId} {z : Nat} (hz : szOf P e = some z) :
    ∀ (l : List Nat), (l.all fun i => match partA P e as (i * z) with | some x => keyOk P d e x | none => false) = true →
    (forIn l PUnit.unit (fun (i : Nat) (_ : PUnit) => (do let s ← sizeOf e; let v ← part e cs (i * s); Instr.checkKey em n e v; pure (ForInStep.yield PUnit.unit) : Sem (ForInStep PUnit)))).run P w = .ok PUnit.unit w
  | [], _ => rfl
  | i :: l, h => by
    simp only [List.all_cons, Bool.and_eq_true] at h
    rw [List.forIn_cons]
    have tail := sim_keyElems em n d ih hs h1 hR hz l h.2
    have h0 := h.1
    split at h0
    · rename_i x hx
      obtain ⟨v, hv, hr⟩ := sim_part (w := w) hs h1 hR hx
      have hc := ih _ _ _ hr h0
      simp only [Sem.run_bind, run_sizeOf' hz, hv, hc, Sem.run_pure, Result.andThen_ok]
      simpa using tail
    · simp at h0

theorem sim_checkKey (em : Bool) : ∀ (d n : Nat) (t : TypeId) (v : Value) (a : AV), d ≤ n → Rep P σ v a → keyOk P d t a = true → (Instr.checkKey em n t v).run P w = .ok () w
  | 0, _, _, _, _, _, _, h => by simp [keyOk] at h
  | d + 1, 0, _, _, _, hn, _, _ => by omega
  | d + 1, n + 1, t, v, a, hn, hv, h => by
    unfold keyOk at h
    have plain : ∀ {dd : TypeDesc}, P.underlying t = some dd → (∀ x y z, (dd, v) ≠ (.interface x, .iface y z)) → (Instr.checkKey em (n + 1) t v).run P w = .ok () w → (Instr.checkKey em (n + 1) t v).run P w = .ok () w := fun _ _ h => h
    split at h
    · rename_i k ht
      cases v <;> simp [Instr.checkKey, run_underlying ht]
    · rename_i ht
      cases v <;> simp [Instr.checkKey, run_underlying ht]
    · rename_i ht
      cases v <;> simp [Instr.checkKey, run_underlying ht]
    · rename_i fs ht
      split at h
      · rename_i as
        cases hv with
        | agg cs _ hs h1 hR =>
        have := sim_keyFields em n d (fun t v a hv ha => sim_checkKey em d n t v a (by omega) hv ha) hs h1 hR fs.toList h
        simp only [Instr.checkKey, Sem.run_bind, run_underlying ht, Result.andThen_ok]
        simp at this ⊢
        rw [this]
        rfl
      · simp at h
    · rename_i len e ht
      split at h
      · rename_i as
        split at h
        · rename_i z hz
          cases hv with
          | agg cs _ hs h1 hR =>
          have := sim_keyElems em n d (fun t v a hv ha => sim_checkKey em d n t v a (by omega) hv ha) hs h1 hR hz (List.range len) h
          simp only [Instr.checkKey, Sem.run_bind, run_underlying ht, Result.andThen_ok, Std.Legacy.Range.forIn_eq_forIn_range', Std.Legacy.Range.size, Nat.sub_zero, Nat.add_one_sub_one, Nat.div_one]
          rw [List.range_eq_range'] at this
          rw [this]
          rfl
        · simp at h
      · simp at h
    · simp at h

theorem sameNow_runIn (d : Nat) {kt : TypeId} {kind : TypeDesc} {x y : Value} {b : Bool} (ht : P.underlying kt = some kind) (h : Instr.sameNow kind x y = some b) : (Op.equalIn (d + 1) kt x y).run P w = .ok b w := by
  unfold Instr.sameNow at h
  split at h
  · split at h
    · rename_i k a k' b hk
      subst hk
      cases h
      simp [Op.equalIn, run_underlying ht]
    · simp at h
  · cases h
    simp [Op.equalIn, run_underlying ht]
  · cases h
    simp [Op.equalIn, run_underlying ht]
  · simp at h
theorem sameNow_run {kt : TypeId} {kind : TypeDesc} {x y : Value} {b : Bool} (ht : P.underlying kt = some kind) (h : Instr.sameNow kind x y = some b) : (Op.equal kt x y).run P w = .ok b w :=
  sameNow_runIn 9999 ht h

theorem findNow_run {kt : TypeId} {kind : TypeDesc} {k : Value} (ht : P.underlying kt = some kind) : ∀ (es : List MapEntry) (i : Nat) (r : Option (Nat × Value)), Instr.findNow kind k es i = some r → (Instr.findAsking kt k es i).run P w = .ok r w
  | [], i, r, h => by simp [Instr.findNow] at h; subst h; rfl
  | e :: es, i, r, h => by
    unfold Instr.findNow at h
    split at h
    · rename_i hs
      cases h
      simp [Instr.findAsking, sameNow_run ht hs]
    · rename_i hs
      simp [Instr.findAsking, sameNow_run ht hs, findNow_run ht es (i + 1) r h]
    · simp at h

/-- What is found: the place and the value. -/
def Found (P : Program) (σ : Gh) (r : Option (Nat × Value)) (ra : Option (Nat × AV)) (es : List MapEntry) (as : List (AV × AV)) (i : Nat) : Prop :=
  match r, ra with
  | none, none => True
  | some (j, v), some (j', a) => j = j' ∧ Rep P σ v a ∧ i ≤ j ∧ j < i + es.length
  | _, _ => False

theorem sim_find {kt : TypeId} {k : Value} {ka : AV} (hk : Rep P σ k ka) : ∀ (es : List MapEntry) (as : List (AV × AV)) (i : Nat) (ra : Option (Nat × AV)), es.length = as.length →
    (∀ (j : Nat) e p, es[j]? = some e → as[j]? = some p → Rep P σ e.key p.1 ∧ Rep P σ e.val p.2) → findA (eqA P 10000 kt) ka as i = some ra →
    ∃ r, (Instr.findAsking kt k es i).run P w = .ok r w ∧ Found P σ r ra es as i
  | [], [], i, ra, _, _, h => by simp [findA] at h; subst h; exact ⟨none, rfl, trivial⟩
  | [], _ :: _, _, _, hl, _, _ => by simp at hl
  | _ :: _, [], _, _, hl, _, _ => by simp at hl
  | e :: es, (a1, a2) :: as, i, ra, hl, hR, h => by
    simp only [findA] at h
    obtain ⟨b, hb, h2⟩ := Option.bind_eq_some_iff.1 h
    obtain ⟨r1, r2⟩ := hR 0 e (a1, a2) rfl rfl
    have he : (Op.equal kt k e.key).run P w = .ok b w := sim_eq 10000 kt k e.key ka a1 b hk r1 hb
    cases b with
    | true =>
      simp at h2; subst h2
      exact ⟨some (i, e.val), by simp [Instr.findAsking, he], rfl, r2, Nat.le_refl _, by simp⟩
    | false =>
      simp at h2
      obtain ⟨r, q1, q2⟩ := sim_find hk es as (i + 1) ra (by simpa using hl) (fun j e p h1 h2 => hR (j + 1) e p (by simpa using h1) (by simpa using h2)) h2
      refine ⟨r, by simp [Instr.findAsking, he, q1], ?_⟩
      cases r with
      | none =>
        cases ra with
        | none => trivial
        | some p => exact q2.elim
      | some q =>
        cases ra with
        | none => exact q2.elim
        | some p =>
          obtain ⟨j, v⟩ := q
          obtain ⟨j', a⟩ := p
          obtain ⟨p1, p2, p3, p4⟩ := q2
          exact ⟨p1, p2, by omega, by simp; omega⟩

theorem sim_findKey {kt : TypeId} {kind : TypeDesc} {k : Value} {ka : AV} (ht : P.underlying kt = some kind) (hk : Rep P σ k ka) {es : List MapEntry} {as : List (AV × AV)} {ra : Option (Nat × AV)} (hl : es.length = as.length)
    (hR : ∀ (j : Nat) e p, es[j]? = some e → as[j]? = some p → Rep P σ e.key p.1 ∧ Rep P σ e.val p.2) (h : findA (eqA P 10000 kt) ka as 0 = some ra) :
    ∃ r, (Instr.findKey kt k es).run P w = .ok r w ∧ Found P σ r ra es as 0 := by
  obtain ⟨r, h1, h2⟩ := sim_find (w := w) hk es as 0 ra hl hR h
  refine ⟨r, ?_, h2⟩
  simp only [Instr.findKey, Sem.run_bind, run_underlying ht, Result.andThen_ok]
  split
  · rename_i r' hr'
    have := findNow_run (w := w) ht es 0 r' hr'
    rw [h1] at this
    cases this
    rfl
  · exact h1

theorem keyOk_under {d : Nat} {t : TypeId} {a : AV} (h : keyOk P d t a = true) : ∃ kind, P.underlying t = some kind := by
  cases d with
  | zero => simp [keyOk] at h
  | succ d =>
    unfold keyOk at h
    split at h
    · exact ⟨_, by assumption⟩
    · exact ⟨_, by assumption⟩
    · exact ⟨_, by assumption⟩
    · exact ⟨_, by assumption⟩
    · exact ⟨_, by assumption⟩
    · simp at h

theorem sim_lookup {t : TypeId} {x k : Value} {xa ka a : AV} {ok : Bool} (h : WF P W bs σ st w) (hx : Rep P σ x xa) (hk : Rep P σ k ka) (hl : lookupA P st t xa ka ok = some a) :
    ∃ v, (Instr.lookup t x k ok).run P w = .ok v w ∧ Rep P σ v a := by
  unfold lookupA at hl
  split at hl
  · rename_i kt e ht
    split at hl
    · rename_i hko
      obtain ⟨kind, hkd⟩ := keyOk_under hko
      obtain ⟨z, hz, h2⟩ := Option.bind_eq_some_iff.1 hl
      clear hl
      obtain ⟨zv, hz1, hz2⟩ := sim_zero (σ := σ) hz w
      have hck := fun em => sim_checkKey (P := P) (σ := σ) (w := w) em 20 10000 kt k ka (by omega) hk hko
      have fin : ∀ (v : Value) (b : AV) (o : Bool), Rep P σ v b → Rep P σ (if ok then .tuple #[v, .bool o] else v) (if ok then .tup [b, .bool o] else b) := fun v b o hv => by
        cases ok with
        | true => exact RepTup2 hv (.bool o)
        | false => exact hv
      split at h2
      · cases h2
        cases hx
        refine ⟨_, ?_, fin zv z false hz2⟩
        have hf : (Instr.findKey kt k []).run P w = .ok none w := by
          simp only [Instr.findKey, Sem.run_bind, run_underlying hkd, Result.andThen_ok, Instr.findNow]
          rfl
        simp [Instr.lookup, run_underlying ht, hck, hf, hz1]
      · rename_i o
        split at h2
        · rename_i es ho
          obtain ⟨ra, hra, rfl⟩ := Option.map_eq_some_iff.1 h2
          cases hx with
          | mp b _ hB =>
          obtain ⟨b', ents, clock, h1, hbs, h3, h4, h5⟩ := h.obj _ _ ho
          rw [hB] at h1; cases h1
          obtain ⟨r, hr1, hr2⟩ := sim_findKey (w := w) hkd hk (es := ents.toList) (as := es) (ra := ra) (by simpa using h4) (fun j e p q1 q2 => h5 j e p (by simpa using q1) q2) hra
          have hget : (getObj b).run P w = .ok (.map ents clock) w := by simp [getObj, Sem.run, h3]
          cases ra with
          | none =>
            cases r with
            | none =>
              refine ⟨_, ?_, fin zv z false hz2⟩
              simp [Instr.lookup, run_underlying ht, hget, hck, hr1, hz1]
            | some q => exact hr2.elim
          | some p =>
            cases r with
            | none => exact hr2.elim
            | some q =>
              obtain ⟨j, v⟩ := q
              obtain ⟨j', a'⟩ := p
              obtain ⟨_, p2, _⟩ := hr2
              refine ⟨_, ?_, fin v a' true p2⟩
              simp [Instr.lookup, run_underlying ht, hget, hck, hr1]
        · simp at h2
      · simp at h2
    · simp at hl
  · simp at hl

theorem scalarEq_same {x y : Value} {a b : AV} (hx : Rep P σ x a) (hy : Rep P σ y b) (h : scalarEq a b = true) (n : Nat) : Instr.sameBits n x y = true := by
  unfold scalarEq at h
  split at h
  · cases hx; cases hy; unfold Instr.sameBits; simpa using h
  · cases hx; cases hy; unfold Instr.sameBits; simpa using h
  · cases hx with
    | str s => cases hy with
      | str s' =>
        unfold Instr.sameBits
        have e : s.data = s'.data := by
          have := eq_of_beq h
          exact Array.ext' this
        have e2 : s = s' := by cases s; cases s'; simp at e; simp [e]
        subst e2
        cases s with
        | mk d => exact beq_self_eq_true d
  · simp at h

theorem scalarsEq_len : ∀ {as bs : List AV}, scalarsEq as bs = true → as.length = bs.length
  | [], [], _ => rfl
  | [], _ :: _, h => by simp [scalarsEq] at h
  | _ :: _, [], h => by simp [scalarsEq] at h
  | a :: as, b :: bs, h => by
    simp only [scalarsEq, Bool.and_eq_true] at h
    simp [scalarsEq_len h.2]
theorem scalarsEq_at : ∀ {as bs : List AV} {j : Nat} {a b : AV}, scalarsEq as bs = true → as[j]? = some a → bs[j]? = some b → scalarEq a b = true
  | [], _, _, _, _, _, h, _ => by simp at h
  | _ :: _, [], _, _, _, h, _, _ => by simp [scalarsEq] at h
  | a :: as, b :: bs, 0, _, _, h, h1, h2 => by
    simp at h1 h2; subst h1 h2
    simp only [scalarsEq, Bool.and_eq_true] at h
    exact h.1
  | a :: as, b :: bs, j + 1, _, _, h, h1, h2 => by
    simp only [scalarsEq, Bool.and_eq_true] at h
    exact scalarsEq_at h.2 (by simpa using h1) (by simpa using h2)

theorem keySame_bits {x y : Value} {a b : AV} (hx : Rep P σ x a) (hy : Rep P σ y b) (h : keySame a b = true) : Instr.sameBits 10000 x y = true := by
  unfold keySame at h
  split at h
  · rename_i as bs
    cases hx with
    | agg xs _ hs h1 hR =>
    cases hy with
    | agg ys _ hs' h1' hR' =>
    have hl := scalarsEq_len h
    unfold Instr.sameBits
    simp only [Bool.and_eq_true, beq_iff_eq, List.all_eq_true]
    refine ⟨by omega, fun p hp => ?_⟩
    obtain ⟨j, hj, rfl⟩ := List.getElem_of_mem hp
    simp at hj
    have hja : j < as.length := by omega
    have hjb : j < bs.length := by omega
    have e1 : xs[j]? = some xs[j] := Array.getElem?_eq_getElem (by omega)
    have e2 : ys[j]? = some ys[j] := Array.getElem?_eq_getElem (by omega)
    have e3 : as[j]? = some as[j] := List.getElem?_eq_getElem hja
    have e4 : bs[j]? = some bs[j] := List.getElem?_eq_getElem hjb
    have := scalarEq_same (hR j _ _ e1 e3) (hR' j _ _ e2 e4) (scalarsEq_at h e3 e4) 9999
    simpa using this
  · exact scalarEq_same hx hy h _

theorem sim_mapUpdate {t : TypeId} {x k v : Value} {xa ka va : AV} {st' : St} (h : WF P W bs σ st w) (hx : Rep P σ x xa) (hk : Rep P σ k ka) (hv : Rep P σ v va) (hm : mapUpdateA P st t xa ka va = some st') :
    ∃ w', (Instr.mapUpdate t x k v).run P w = .ok () w' ∧ WF P W bs σ st' w' := by
  unfold mapUpdateA at hm
  split at hm
  · rename_i kt e ht
    split at hm
    · rename_i hko
      obtain ⟨kind, hkd⟩ := keyOk_under hko
      split at hm
      · rename_i o
        split at hm
        · rename_i es ho
          obtain ⟨ra, hra, h2⟩ := Option.bind_eq_some_iff.1 hm
          cases hx with
          | mp b _ hB =>
          obtain ⟨b', ents, clock, h1, hbs, h3, h4, h5⟩ := h.obj _ _ ho
          rw [hB] at h1; cases h1
          obtain ⟨r, hr1, hr2⟩ := sim_findKey (w := w) hkd hk (es := ents.toList) (as := es) (ra := ra) (by simpa using h4) (fun j e p q1 q2 => h5 j e p (by simpa using q1) q2) hra
          have hget : (getObj b).run P w = .ok (.map ents clock) w := by simp [getObj, Sem.run, h3]
          have hck := sim_checkKey (P := P) (σ := σ) (w := w) false 20 10000 kt k ka (by omega) hk hko
          have hset : ∀ ob, (setObj b ob).run P w = .ok () { w with heap := w.heap.setIfInBounds b ob } := fun ob => by simp [setObj, Sem.run, h3]
          have hwf : ∀ ents' clock' es', ents'.size = es'.length → (∀ (i : Nat) (e : MapEntry) (p : AV × AV), ents'[i]? = some e → es'[i]? = some p → Rep P σ e.key p.1 ∧ Rep P σ e.val p.2) →
              WF P W bs σ (st.put o (.amap es')) { w with heap := w.heap.setIfInBounds b (.map ents' clock') } := fun ents' clock' es' q1 q2 => by
            refine h.setObj ho hB hbs (lt_of_heap h3) (fun cs e fz hh => by rw [h3] at hh; simp at hh) ⟨b, ents', clock', hB, hbs, heap_set_at w b _ (lt_of_heap h3), q1, q2⟩ trivial (fun b' hb' => ?_) ?_
            · rw [show σ.B o = some b' from hb'] at hB; exact Option.some.inj hB
            · exact ⟨h.below.os, h.below.tape, h.below.output, by simpa using h.below.size, fun k hk => by rw [heap_set_ne w b k _ (by omega)]; exact h.below.block k hk⟩
          cases ra with
          | none =>
            cases r with
            | some q => exact hr2.elim
            | none =>
              cases h2
              refine ⟨_, ?_, hwf (ents.push { key := k, val := v, born := clock }) (clock + 1) (es ++ [(ka, va)]) (by simp [h4]) (fun i e p q1 q2 => ?_)⟩
              · simp [Instr.mapUpdate, run_underlying ht, hget, hck, hr1, hset]
              · rw [Array.getElem?_push] at q1
                split at q1
                · rename_i hi
                  subst hi
                  rw [h4, List.getElem?_append_right (Nat.le_refl _)] at q2
                  simp at q2
                  cases q1; subst q2
                  exact ⟨hk, hv⟩
                · rename_i hi
                  have hlt := (Array.getElem?_eq_some_iff.1 q1).1
                  rw [List.getElem?_append_left (by omega)] at q2
                  exact h5 i e p q1 q2
          | some p =>
            cases r with
            | none => exact hr2.elim
            | some q =>
              obtain ⟨j, v0⟩ := q
              obtain ⟨j', a'⟩ := p
              obtain ⟨p1, _, _, p4⟩ := hr2
              subst p1
              obtain ⟨old, hold, h6⟩ := Option.bind_eq_some_iff.1 h2
              split at h6
              · rename_i hsame
                cases h6
                have hjl : j < ents.size := by simpa using p4
                have he : ents[j]? = some ents[j] := Array.getElem?_eq_getElem hjl
                have hbits := keySame_bits (h5 j _ old he hold).1 hk hsame
                refine ⟨_, ?_, hwf (ents.modify j fun e => { e with key := k, val := v }) clock (es.set j (ka, va)) (by simp [h4]) (fun i e p q1 q2 => ?_)⟩
                · simp [Instr.mapUpdate, run_underlying ht, hget, hck, hr1, hset, Instr.keyThatStays, he, hbits]
                · rw [Array.getElem?_modify] at q1
                  by_cases hij : j = i
                  · subst hij
                    rw [if_pos rfl, he] at q1
                    rw [List.getElem?_set_self (by omega)] at q2
                    cases q1; cases q2
                    exact ⟨hk, hv⟩
                  · rw [if_neg hij] at q1
                    rw [List.getElem?_set_ne hij] at q2
                    exact h5 i e p q1 q2
              · simp at h6
        · simp at hm
      · simp at hm
    · simp at hm
  · simp at hm
end
end Go.Abs

/- The interpreter by value: one operation. -/
namespace Go.Abs
open Go Go.RowKit
set_option linter.unusedVariables false
set_option linter.unusedSimpArgs false

section
variable {P : Program} {W : World} {bs : Nat} {σ : Gh} {st : St} {w : World}

/-- Values and what they stand for. -/
def Reps (P : Program) (σ : Gh) (vs : List Value) (as : List AV) : Prop := vs.length = as.length ∧ ∀ (j : Nat) v a, vs[j]? = some v → as[j]? = some a → Rep P σ v a

theorem Reps.nil : Reps P σ [] [] := ⟨rfl, by simp⟩
theorem Reps.cons {v : Value} {a : AV} {vs : List Value} {as : List AV} (h : Rep P σ v a) (hs : Reps P σ vs as) : Reps P σ (v :: vs) (a :: as) := by
  refine ⟨by simp [hs.1], fun j u b h1 h2 => ?_⟩
  cases j with
  | zero => simp at h1 h2; subst h1 h2; exact h
  | succ j => exact hs.2 j u b (by simpa using h1) (by simpa using h2)
theorem Reps.mono {σ' : Gh} {vs : List Value} {as : List AV} (h : Reps P σ vs as) (hl : σ.Le σ') : Reps P σ' vs as := ⟨h.1, fun j v a h1 h2 => (h.2 j v a h1 h2).mono hl⟩
theorem Reps.append {vs us : List Value} {as bs : List AV} (h : Reps P σ vs as) (k : Reps P σ us bs) : Reps P σ (vs ++ us) (as ++ bs) := by
  refine ⟨by simp [h.1, k.1], fun j v a h1 h2 => ?_⟩
  rcases Nat.lt_or_ge j vs.length with hl | hl
  · rw [List.getElem?_append_left hl] at h1
    rw [List.getElem?_append_left (by rw [← h.1]; exact hl)] at h2
    exact h.2 j v a h1 h2
  · rw [List.getElem?_append_right hl] at h1
    rw [List.getElem?_append_right (by rw [← h.1]; exact hl), ← h.1] at h2
    exact k.2 _ v a h1 h2
theorem Reps.one {vs : List Value} {a : AV} (h : Reps P σ vs [a]) : ∃ v, vs = [v] ∧ Rep P σ v a := by
  match vs, h with
  | [v], h => exact ⟨v, rfl, h.2 0 v a rfl rfl⟩
  | [], h => simp [Reps] at h
  | _ :: _ :: _, h => simp [Reps] at h
theorem Reps.two {vs : List Value} {a b : AV} (h : Reps P σ vs [a, b]) : ∃ v u, vs = [v, u] ∧ Rep P σ v a ∧ Rep P σ u b := by
  match vs, h with
  | [v, u], h => exact ⟨v, u, rfl, h.2 0 v a rfl rfl, h.2 1 u b rfl rfl⟩
  | [], h => simp [Reps] at h
  | [_], h => simp [Reps] at h
  | _ :: _ :: _ :: _, h => simp [Reps] at h
theorem Reps.head {vs : List Value} {a : AV} {as : List AV} (h : Reps P σ vs (a :: as)) : ∃ v us, vs = v :: us ∧ Rep P σ v a ∧ Reps P σ us as := by
  match vs, h with
  | [], h => simp [Reps] at h
  | v :: us, h => exact ⟨v, us, rfl, h.2 0 v a rfl rfl, by simpa using h.1, fun j u b h1 h2 => h.2 (j + 1) u b (by simpa using h1) (by simpa using h2)⟩

theorem reps_evs {ev : Operand → Option AV} {ρ : Operand → Value} (henv : ∀ x a, ev x = some a → Rep P σ (ρ x) a) : ∀ {xs : List Operand} {as : List AV}, evs ev xs = some as → Reps P σ (xs.map ρ) as
  | [], as, h => by simp [evs] at h; subst h; exact .nil
  | x :: xs, as, h => by
    simp only [evs] at h
    obtain ⟨a, ha, h2⟩ := Option.bind_eq_some_iff.1 h
    obtain ⟨as', has, rfl⟩ := Option.map_eq_some_iff.1 h2
    exact .cons (henv x a ha) (reps_evs henv has)
theorem reps_evps {ev : Operand → Option AV} {ρ : Operand → Value} (henv : ∀ x a, ev x = some a → Rep P σ (ρ x) a) : ∀ {xs : List (Nat × Operand)} {as : List (Nat × AV)}, evps ev xs = some as → RepPs P σ (xs.map fun p => (p.1, ρ p.2)) as
  | [], as, h => by simp [evps] at h; subst h; exact .nil
  | (i, x) :: xs, as, h => by
    simp only [evps] at h
    obtain ⟨a, ha, h2⟩ := Option.bind_eq_some_iff.1 h
    obtain ⟨as', has, rfl⟩ := Option.map_eq_some_iff.1 h2
    exact .cons (henv x a ha) (reps_evps henv has)

/-- What an operation comes to, and what its run gives. -/
def ResOk (P : Program) (W : World) (bs : Nat) (σ : Gh) (st' : St) (x : Result Next) : Res → Prop
  | .val a => ∃ v w' σ', x = .ok (.value v) w' ∧ σ.Le σ' ∧ WF P W bs σ' st' w' ∧ Rep P σ' v a
  | .skip => ∃ w' σ', x = .ok .skip w' ∧ σ.Le σ' ∧ WF P W bs σ' st' w'
  | .defer g as => ∃ cap args w' σ', x = .ok (.defer ⟨.fn (.func g) cap, args⟩) w' ∧ σ.Le σ' ∧ WF P W bs σ' st' w' ∧ Reps P σ' (args.toList ++ cap.toList) as
  | .pan a => ∃ v w' σ', x = .halt (.panic v) w' ∧ σ.Le σ' ∧ WF P W bs σ' st' w' ∧ Rep P σ' v a

theorem bytePtr_spec {t : Option TypeId} (h : bytePtr P t = true) : ∃ p u, t = some p ∧ P.underlying p = some (.pointer u) ∧ P.underlying u = some (.int .u8) := by
  unfold bytePtr at h
  split at h
  · rename_i u hu
    split at h
    · rename_i hb
      obtain ⟨p, rfl, hp⟩ := Option.bind_eq_some_iff.1 hu
      exact ⟨p, u, rfl, hp, hb⟩
    · simp at h
  · simp at h

theorem liesAt_row {e u : TypeId} (hc : ByteT P e) (hu : P.underlying u = some (.int .u8)) (count off n : Nat) (hn : off + n ≤ count) : liesAt P P.depth e count off u n = true := by
  have hd : P.depth = (2 * (P.types.size + Made.depth) + 1) + 1 := rfl
  rw [hd]
  simp only [liesAt, Bool.or_eq_true]
  left
  rw [hd]
  simp [rowAt, hc.2, hn, sameLayout, hc.1, hu, Nat.mod_one]

theorem sim_sliceData {ts : Array TypeId} {ty : TypeId} {x : Value} {xa a : AV} (h : WF P W bs σ st w) (hx : Rep P σ x xa) (hr : sliceDataA st xa = some a) :
    ∃ v, (Builtin.unsafeSliceData_ ts ty #[x]).run P w = .ok v w ∧ Rep P σ v a := by
  unfold sliceDataA at hr
  split at hr
  · cases hr; cases hx
    exact ⟨.pointer none, rfl, .nilp⟩
  · rename_i sz rows off len t ep
    split at hr
    · rename_i ep' n hget
      split at hr
      · rename_i hc
        obtain ⟨rfl, hpos, hle, rfl, rfl⟩ := hc
        cases hr
        cases hx with
        | sl b o o0 _ c _ _ _ _ hlen hrow hcap ho hsh htok hI hR =>
        have hc0 : 0 < c := by omega
        have ho' := ho hc0
        obtain ⟨b', s, g1, hbs, _⟩ := h.obj _ _ hget
        have htok' : σ.L t ep rows.length = some (b, o0 + rows.length * szk 0) := htok
        rw [htok'] at g1
        cases g1
        have e1 : o = o0 + off := by rw [ho']; simp [szk]
        subst e1
        refine ⟨.pointer (some ⟨b, o0 + off, none⟩), Go.Lib.run_unsafeSliceData_row w ts ty _ _ _ (by omega), ?_⟩
        obtain ⟨e, k, s1, s2, s3⟩ := hsh.get (Nat.lt_of_lt_of_le (show 0 < (if c = 0 then 0 else o0 + off + c * szk 0) by
          rw [if_neg (by omega)]; simp [szk]; omega) (Nat.le_max_right _ _))
        refine .dp b o0 rows off (by rw [h.lo]; exact hbs) hrow ⟨e, k, s1, ?_, s3⟩ (fun i r j a h1 h2 => ?_) (fun i r j a v h1 h2 h3 => ?_)
        · have := (Nat.max_le.1 s2).1
          simpa [szk] using this
        · have := hI i r j a h1 h2
          simpa [szk] using this
        · exact hR i r j a v h1 h2 (by simpa [szk] using h3)
      · simp at hr
    · simp at hr
  · simp at hr

theorem sim_unsafeString {ts : Array TypeId} {ty : TypeId} {x : Value} {xa a : AV} {n : Int} (h : WF P W bs σ st w) (hx : Rep P σ x xa) (hr : unsafeStringA P (ts[0]?) xa n = some a) :
    ∃ v w', (Builtin.unsafeString_ ts ty #[x, .int .i64 n]).run P w = .ok v w' ∧ WF P W bs σ st w' ∧ Rep P σ v a := by
  unfold unsafeStringA at hr
  split at hr
  · split at hr
    · rename_i hc
      obtain ⟨rfl, hp⟩ := hc
      cases hr; cases hx
      obtain ⟨t, ht⟩ := Option.isSome_iff_exists.1 hp
      refine ⟨.string .empty, w, ?_, h, .str .empty⟩
      have hdef : Builtin.unsafeString_ ts ty #[.pointer none, .int .i64 0] =
          (do
            let n ← asInt (.int .i64 0)
            let some pt := ts[0]? | stuck "unsafe.String: no argument types"
            if n < 0 then runtimePanic (.error "unsafe.String: len out of range")
            if n > IntKind.i64.max then unsupported (.unsafePointer "String: a length above the largest int")
            if n = 0 then pure (.string .empty)
            else runtimePanic (.error "unsafe.String: ptr is nil and len is not zero")) := rfl
      rw [hdef]
      simp [ht, asInt, asIntOf, IntKind.max, IntKind.bits, IntKind.signed]
    · simp at hr
  · rename_i rows off
    split at hr
    · rename_i hc
      obtain ⟨hn, hn63, hle, hb⟩ := hc
      obtain ⟨l, hl, rfl⟩ := Option.map_eq_some_iff.1 hr
      obtain ⟨pt, u, hpt, hu1, hu2⟩ := bytePtr_spec hb
      cases hx with
      | dp b o0 _ _ hlo hrow hsh hI hR =>
      obtain ⟨m, hm⟩ : ∃ m : Nat, n = m := ⟨n.toNat, (Int.toNat_of_nonneg (by omega)).symm⟩
      subst hm
      simp only [Int.toNat_natCast] at hle hl
      have hm0 : 0 < m := by omega
      obtain ⟨e, k, s1, s2, s3⟩ := hsh
      have hshp := h.shp _ _ s1
      -- the bytes
      have hcell : ∀ j, j < m → ∃ v, σ.I b (o0 + off + j) = some v ∧ ∃ a, ((rows.drop off).take m)[j]? = some [a] ∧ Rep P σ v a := fun j hj => by
        have hjl : off + j < rows.length := by omega
        have hr1 := hrow _ (List.getElem_mem hjl)
        match hrr : rows[off + j], hr1 with
        | [a], _ =>
          have h1 : rows[off + j]? = some [a] := by rw [List.getElem?_eq_getElem hjl, hrr]
          obtain ⟨v, hv⟩ := Option.isSome_iff_exists.1 (hI (off + j) [a] 0 a h1 rfl)
          have e1 : o0 + (off + j) + 0 = o0 + off + j := by omega
          have hv' := hv
          rw [e1] at hv'
          exact ⟨v, hv', a, by rw [List.getElem?_take, if_pos hj, List.getElem?_drop, h1], hR _ _ _ _ v h1 rfl hv⟩
      have hlen : ((rows.drop off).take m).length = m := by simp; omega
      have hvl : ∃ vs : List Value, vs.length = m ∧ ∀ j, j < m → ∃ v, vs[j]? = some v ∧ σ.I b (o0 + off + j) = some v :=
        ⟨(List.range m).map (fun j => (σ.I b (o0 + off + j)).getD .nilIface), by simp, fun j hj => by
          obtain ⟨v, hv, _⟩ := hcell j hj
          exact ⟨v, by simp [hj, hv], hv⟩⟩
      obtain ⟨vs, hvs1, hvs2⟩ := hvl
      obtain ⟨ns, hns, rfl⟩ := bytesOf_spec (P := P) (σ := σ) (rows := (rows.drop off).take m) (vs := vs) (bs := l) (by rw [hvs1, hlen]) (fun i r a h1 h2 => by
        have him : i < m := by rw [← hlen]; exact (List.getElem?_eq_some_iff.1 h1).1
        obtain ⟨v, hv, a', ha', hrep⟩ := hcell i him
        obtain ⟨v', hv', hI'⟩ := hvs2 i him
        rw [hv] at hI'; cases hI'
        rw [h1] at ha'; cases ha'
        simp at h2; subst h2
        exact ⟨v, hv', hrep⟩) hl
      have hnl : ns.length = m := by rw [← hvs1, hns]; simp
      have hload : (loadBytes ⟨b, o0 + off, none⟩ .empty m).run P w = .ok ⟨(ns.map fun n => UInt8.ofNat n.toNat).toArray⟩ w := by
        have hgen : ∀ (ns : List Int) (o : Nat) (acc : ByteArray), (∀ j n, ns[j]? = some n → w.cell? ⟨b, o + j, none⟩ = some (.int .u8 n)) →
            (loadBytes ⟨b, o, none⟩ acc ns.length).run P w = .ok ⟨acc.data ++ (ns.map fun n => UInt8.ofNat n.toNat).toArray⟩ w := by
          intro ns
          induction ns with
          | nil => intro o acc _; simp [loadBytes]
          | cons n ns ih =>
            intro o acc hh
            have h0 : w.cell? ⟨b, o, none⟩ = some (.int .u8 n) := by simpa using hh 0 n rfl
            have := ih (o + 1) (acc.push (n.toNat.toUInt8)) (fun j k hk => by
              have := hh (j + 1) k (by simpa using hk)
              rw [show o + 1 + j = o + (j + 1) by omega]; exact this)
            simp only [List.length_cons, loadBytes, Sem.run_bind, run_load, h0, Result.andThen_ok, addr_add]
            rw [this]
            simp [ByteArray.push]
        have := hgen ns (o0 + off) .empty (fun j n hn => by
          have hj : j < m := by rw [← hnl]; exact (List.getElem?_eq_some_iff.1 hn).1
          obtain ⟨v, hv, hv2⟩ := hvs2 j hj
          have hv3 : vs[j]? = some (.int .u8 n) := by rw [hns, List.getElem?_map, hn]; rfl
          rw [hv] at hv3; cases hv3
          exact (h.imm _ _ _ hv2).1)
        rw [hnl] at this
        simpa using this
      have hva : (variablesAt ⟨b, o0 + off, none⟩ u m).run P w = .ok true w := by
        have hcs := (s3 rfl).2
        simp only [variablesAt, Sem.run_bind, run_program, Result.andThen_ok, run_shape, hshp, Sem.run_pure]
        rw [hcs, Nat.div_one, liesAt_row (s3 rfl) hu2 _ _ _ (by omega)]
      have hbs : bs ≤ b := by rw [← h.lo]; exact hlo
      refine ⟨.string ⟨(ns.map fun n => UInt8.ofNat n.toNat).toArray⟩, w.freeze ⟨b, o0 + off, none⟩ m, ?_, h.freeze hbs hm0 (fun j hj => by obtain ⟨v, hv, _⟩ := hcell j hj; rw [hv]; rfl), ?_⟩
      · have hm1 : ¬ (m = 0) := by omega
        have hmax : ¬ ((9223372036854775807 : Int) < (m : Int)) := by omega
        have hdef : Builtin.unsafeString_ ts ty #[.pointer (some ⟨b, o0 + off, none⟩), .int .i64 (m : Int)] =
          (do
            let n ← asInt (.int .i64 (m : Int))
            let some pt := ts[0]? | stuck "unsafe.String: no argument types"
            if n < 0 then runtimePanic (.error "unsafe.String: len out of range")
            if n > IntKind.i64.max then unsupported (.unsafePointer "String: a length above the largest int")
            if n = 0 then pure (.string .empty)
            else if ← variablesAt ⟨b, o0 + off, none⟩ (← elemOf pt) n.toNat then do
              let s ← loadBytes ⟨b, o0 + off, none⟩ .empty n.toNat
              freeze ⟨b, o0 + off, none⟩ n.toNat
              pure (.string s)
            else unsupported (.unsafePointer "String: not so many bytes at ptr")) := rfl
        rw [hdef]
        simp [hpt, asInt, asIntOf, IntKind.max, IntKind.bits, IntKind.signed, hm1, hmax, elemOf, run_underlying hu1, hva, hload]
        intro hneg; omega
      · exact .str ⟨(ns.map fun n => UInt8.ofNat n.toNat).toArray⟩
    · simp at hr
  · simp at hr
end
end Go.Abs

/- The interpreter by value: one operation. -/
namespace Go.Abs
open Go Go.RowKit
set_option linter.unusedVariables false
set_option linter.unusedSimpArgs false

section
variable {P : Program} {W : World} {bs : Nat} {σ : Gh} {st : St} {w : World}

/-- The functions without a Go body do what the hints say. -/
def ExtOk (P : Program) (H : Hints) : Prop :=
  ∀ g F, H.ext g = some F → ∀ (W : World) (bs : Nat) (σ : Gh) (st : St) (w : World) (vs : List Value) (as : List AV) (a : AV), WF P W bs σ st w → Reps P σ vs as → F as = some a → ∃ v, (callFunc g vs.toArray).run P w = .ok (.value v) w ∧ Rep P σ v a

theorem val_ok {s : Sem Value} {v : Value} {w' : World} {σ' : Gh} {a : AV} {st' : St} (hr : s.run P w = .ok v w') (hl : σ.Le σ') (hw : WF P W bs σ' st' w') (hrep : Rep P σ' v a) :
    ResOk P W bs σ st' ((do pure (Next.value (← s)) : Sem Next).run P w) (.val a) := ⟨v, w', σ', by simp [hr], hl, hw, hrep⟩
theorem val_still {s : Sem Value} {a : AV} (h : WF P W bs σ st w) (hr : ∃ v, s.run P w = .ok v w ∧ Rep P σ v a) :
    ResOk P W bs σ st ((do pure (Next.value (← s)) : Sem Next).run P w) (.val a) := by
  obtain ⟨v, h1, h2⟩ := hr
  exact val_ok h1 (.refl _) h h2
theorem val_new {s : Sem Value} {r : AV × St} (hr : ∃ v w' σ', s.run P w = .ok v w' ∧ σ.Le σ' ∧ WF P W bs σ' r.2 w' ∧ Rep P σ' v r.1) :
    ResOk P W bs σ r.2 ((do pure (Next.value (← s)) : Sem Next).run P w) (.val r.1) := by
  obtain ⟨v, w', σ', h1, h2, h3, h4⟩ := hr
  exact val_ok h1 h2 h3 h4
theorem val_same {s : Sem Value} {r : AV × St} (hr : ∃ v w', s.run P w = .ok v w' ∧ WF P W bs σ r.2 w' ∧ Rep P σ v r.1) :
    ResOk P W bs σ r.2 ((do pure (Next.value (← s)) : Sem Next).run P w) (.val r.1) := by
  obtain ⟨v, w', h1, h3, h4⟩ := hr
  exact val_ok h1 (.refl _) h3 h4
theorem skip_ok {s : Sem Unit} {st' : St} (hr : ∃ w', s.run P w = .ok () w' ∧ WF P W bs σ st' w') : ResOk P W bs σ st' ((do s; pure Next.skip : Sem Next).run P w) .skip := by
  obtain ⟨w', h1, h2⟩ := hr
  exact ⟨w', σ, by simp [h1], .refl _, h2⟩

theorem sim_builtin {home : Option (Nat × Bool)} {b : Builtin} {ts : Array TypeId} {ty : TypeId} {cs : Array Bool} {vs : List Value} {as : List AV} {r : Res × St} (h : WF P W bs σ st w) (hv : Reps P σ vs as)
    (hb : builtinA P st home b ts as = some r) : ResOk P W bs σ r.2 ((builtin b ts ty cs vs.toArray).run P w) r.1 := by
  unfold builtinA at hb
  split at hb
  · rename_i s x
    obtain ⟨sv, xv, rfl, h1, h2⟩ := hv.two
    obtain ⟨t, ht, h3⟩ := Option.bind_eq_some_iff.1 hb
    split at h3
    · simp at h3
    · simp at h3
    · rename_i d hni hd
      obtain ⟨q, hq, rfl⟩ := Option.map_eq_some_iff.1 h3
      cases hts : ts[1]? with
      | none => rw [hts] at hd; simp at hd
      | some u =>
        rw [hts] at hd hni
        cases hu : P.underlying u with
        | none => simp [hu] at hd
        | some d =>
          exact val_new (sim_append h ht hts hu (fun k e => hni k (by simp [hu, e])) h1 h2 hq)
  · rename_i x
    obtain ⟨xv, rfl, h1⟩ := hv.one
    obtain ⟨t, ht, h3⟩ := Option.bind_eq_some_iff.1 hb
    obtain ⟨q, hq, rfl⟩ := Option.map_eq_some_iff.1 h3
    exact val_still h (sim_len h ht h1 hq)
  · rename_i d s
    obtain ⟨dv, sv, rfl, h1, h2⟩ := hv.two
    obtain ⟨t, ht, h3⟩ := Option.bind_eq_some_iff.1 hb
    obtain ⟨q, hq, rfl⟩ := Option.map_eq_some_iff.1 h3
    exact val_same (sim_copy h ht h1 h2 hq)
  · rename_i x rest
    obtain ⟨xv, us, rfl, h1, h2⟩ := hv.head
    obtain ⟨q, hq, rfl⟩ := Option.map_eq_some_iff.1 hb
    exact val_still h (by
      obtain ⟨v, e1, e2⟩ := sim_max (w := w) h1 (xs := us) (as := rest) h2.2 h2.1 hq
      exact ⟨v, by simpa [Builtin.max_] using e1, e2⟩)
  · rename_i x rest
    obtain ⟨xv, us, rfl, h1, h2⟩ := hv.head
    obtain ⟨q, hq, rfl⟩ := Option.map_eq_some_iff.1 hb
    exact val_still h (by
      obtain ⟨v, e1, e2⟩ := sim_min (w := w) h1 (xs := us) (as := rest) h2.2 h2.1 hq
      exact ⟨v, by simpa [Builtin.min_] using e1, e2⟩)
  · rename_i x
    obtain ⟨xv, rfl, h1⟩ := hv.one
    obtain ⟨q, hq, rfl⟩ := Option.map_eq_some_iff.1 hb
    exact val_still h (sim_sliceData h h1 hq)
  · rename_i p n
    obtain ⟨pv, nv, rfl, h1, h2⟩ := hv.two
    cases h2
    obtain ⟨q, hq, rfl⟩ := Option.map_eq_some_iff.1 hb
    exact val_same (r := (q, st)) (sim_unsafeString h h1 hq)
  · simp at hb

theorem vA_some {st : St} {x : Option AV} {r : Res × St} (h : vA st x = some r) : ∃ a, x = some a ∧ r = (.val a, st) := by
  obtain ⟨a, h1, h2⟩ := Option.map_eq_some_iff.1 h
  exact ⟨a, h1, h2.symm⟩
theorem vsA_some {x : Option (AV × St)} {r : Res × St} (h : vsA x = some r) : ∃ q, x = some q ∧ r = (.val q.1, q.2) := by
  obtain ⟨a, h1, h2⟩ := Option.map_eq_some_iff.1 h
  exact ⟨a, h1, h2.symm⟩
theorem usA_some {x : Option St} {r : Res × St} (h : usA x = some r) : ∃ q, x = some q ∧ r = (.skip, q) := by
  obtain ⟨a, h1, h2⟩ := Option.map_eq_some_iff.1 h
  exact ⟨a, h1, h2.symm⟩

theorem toArray_map {α β : Type} (xs : Array α) (g : α → β) : (xs.toList.map g).toArray = xs.map g := by
  apply Array.ext'; simp

theorem repO {ev : Operand → Option AV} {ρ : Operand → Value} (henv : ∀ x a, ev x = some a → Rep P σ (ρ x) a) : ∀ (x : Option Operand), (∀ y ∈ x, (ev y).isSome = true) → RepO P σ (x.map ρ) (x.bind ev)
  | none, _ => .none
  | some y, h => by
    obtain ⟨a, ha⟩ := Option.isSome_iff_exists.1 (h y rfl)
    show RepO P σ (some (ρ y)) (ev y)
    rw [ha]
    exact .some (henv y a ha)
theorem evs_mem {ev : Operand → Option AV} : ∀ {xs : List Operand} {as : List AV}, evs ev xs = some as → ∀ y ∈ xs, (ev y).isSome = true
  | [], _, _, _, hy => by simp at hy
  | x :: xs, as, h, y, hy => by
    simp only [evs] at h
    obtain ⟨a, ha, h2⟩ := Option.bind_eq_some_iff.1 h
    obtain ⟨as', has, _⟩ := Option.map_eq_some_iff.1 h2
    rcases List.mem_cons.1 hy with rfl | hy
    · rw [ha]; rfl
    · exact evs_mem has y hy

theorem sim_op {H : Hints} {f : FuncId} {ev : Operand → Option AV} {ρ : Operand → Value} {base : Nat} {o : Oper} {r : Res × St} (hX : ExtOk P H) (hfn : ∀ g, ρ (.func g) = .func (.func g) #[] #[]) (henv : ∀ x a, ev x = some a → Rep P σ (ρ x) a) (h : WF P W bs σ st w)
    (ho : opA P H f ev st base o.dst o.op = some r) : ResOk P W bs σ r.2 ((execOp ρ o).run P w) r.1 := by
  unfold execOp
  cases hop : o.op with
  | move x =>
    rw [hop] at ho; obtain ⟨a, ha, rfl⟩ := vA_some ho
    exact ⟨ρ x, w, σ, rfl, .refl _, h, henv x a ha⟩
  | assign x =>
    rw [hop] at ho; obtain ⟨a, ha, rfl⟩ := vA_some ho
    exact ⟨ρ x, w, σ, rfl, .refl _, h, henv x a ha⟩
  | pick c x y =>
    rw [hop] at ho; obtain ⟨a, ha, rfl⟩ := vA_some ho
    unfold pickA at ha
    obtain ⟨ca, hc, h2⟩ := Option.bind_eq_some_iff.1 ha
    have hcr := henv c ca hc
    split at h2
    · generalize hρ : ρ c = cv at hcr
      cases hcr
      exact ⟨ρ x, w, σ, by simp [hρ, asBool], .refl _, h, henv x a h2⟩
    · generalize hρ : ρ c = cv at hcr
      cases hcr
      exact ⟨ρ y, w, σ, by simp [hρ, asBool], .refl _, h, henv y a h2⟩
    · simp at h2
  | alloc t =>
    rw [hop] at ho; obtain ⟨q, hq, rfl⟩ := vsA_some ho
    exact val_new (sim_alloc h hq)
  | box t x =>
    rw [hop] at ho; obtain ⟨q, hq, rfl⟩ := vsA_some ho
    unfold boxA at hq
    obtain ⟨a, ha, h2⟩ := Option.bind_eq_some_iff.1 hq
    split at h2
    · simp at h2
    · rename_i ht
      cases h2
      exact val_new (sim_box h (henv x a ha) (by simpa using ht))
  | build t ps =>
    rw [hop] at ho; obtain ⟨a, ha, rfl⟩ := vA_some ho
    obtain ⟨as, has, h2⟩ := Option.bind_eq_some_iff.1 ha
    exact val_still h (by
      have := sim_build (w := w) (reps_evps henv has) h2
      rw [toArray_map] at this
      exact this)
  | buildSlice t len ps =>
    rw [hop] at ho; obtain ⟨q, hq, rfl⟩ := vsA_some ho
    unfold buildSliceA at hq
    split at hq
    · rename_i e ht
      obtain ⟨kd, hk, h3⟩ := Option.bind_eq_some_iff.1 hq
      obtain ⟨z, hz, h4⟩ := Option.bind_eq_some_iff.1 h3
      obtain ⟨as, has, h5⟩ := Option.bind_eq_some_iff.1 h4
      exact val_new (by
        have := sim_literal h ht hk hz (reps_evps henv has) h5
        rw [toArray_map] at this
        exact this)
    · simp at hq
  | load t a =>
    rw [hop] at ho; obtain ⟨v, hv, rfl⟩ := vA_some ho
    obtain ⟨p, hp, h2⟩ := Option.bind_eq_some_iff.1 hv
    exact val_still h (sim_load h (henv a p hp) h2)
  | store t a x =>
    rw [hop] at ho; obtain ⟨q, hq, rfl⟩ := usA_some ho
    obtain ⟨p, hp, h2⟩ := Option.bind_eq_some_iff.1 hq
    obtain ⟨v, hv, h3⟩ := Option.bind_eq_some_iff.1 h2
    exact skip_ok (sim_store h (henv a p hp) (henv x v hv) h3)
  | nilCheck x =>
    rw [hop] at ho; obtain ⟨a, ha, rfl⟩ := vA_some ho
    obtain ⟨p, hp, h2⟩ := Option.bind_eq_some_iff.1 ha
    have hr := henv x p hp
    unfold nilCheckA at h2
    split at h2
    · cases h2
      generalize hρ : ρ x = xv at hr
      have hr' := hr
      cases hr
      exact ⟨_, w, σ, by simp [hρ], .refl _, h, hr'⟩
    · cases h2
      generalize hρ : ρ x = xv at hr
      have hr' := hr
      cases hr
      exact ⟨_, w, σ, by simp [hρ], .refl _, h, hr'⟩
    · cases h2
      generalize hρ : ρ x = xv at hr
      have hr' := hr
      cases hr
      exact ⟨_, w, σ, by simp [hρ], .refl _, h, hr'⟩
    · simp at h2
  | binOp op t x y c =>
    rw [hop] at ho; obtain ⟨a, ha, rfl⟩ := vA_some ho
    obtain ⟨xa, hx, h2⟩ := Option.bind_eq_some_iff.1 ha
    obtain ⟨ya, hy, h3⟩ := Option.bind_eq_some_iff.1 h2
    exact val_still h (sim_bin (henv x xa hx) (henv y ya hy) h3)
  | unOp op t x =>
    rw [hop] at ho; obtain ⟨a, ha, rfl⟩ := vA_some ho
    obtain ⟨xa, hx, h2⟩ := Option.bind_eq_some_iff.1 ha
    exact val_still h (sim_un (henv x xa hx) h2)
  | convert s d x =>
    rw [hop] at ho; obtain ⟨q, hq, rfl⟩ := vsA_some ho
    obtain ⟨xa, hx, h2⟩ := Option.bind_eq_some_iff.1 hq
    exact val_new (sim_conv h (henv x xa hx) h2)
  | makeInterface t x =>
    rw [hop] at ho; obtain ⟨a, ha, rfl⟩ := vA_some ho
    exact val_still h (by
      unfold ifaceA at ha
      cases hd : P.underlying t with
      | none => rw [hd] at ha; simp at ha
      | some d =>
        rw [hd] at ha
        cases hx : ev x with
        | none => rw [hx] at ha; cases d <;> simp at ha
        | some xa =>
          rw [hx] at ha
          exact sim_iface (t := t) (henv x xa hx) (by rw [hd]; cases d <;> first | (simp at ha; done) | simpa using ha))
  | makeFunc fn first cap =>
    rw [hop] at ho; obtain ⟨a, ha, rfl⟩ := vA_some ho
    unfold funcA at ha
    split at ha
    · rename_i g
      split at ha
      · rename_i h0
        obtain ⟨as, has, rfl⟩ := Option.map_eq_some_iff.1 ha
        have hf : first = #[] := Array.eq_empty_of_size_eq_zero h0
        subst hf
        have hr := reps_evs henv has
        refine val_still h ⟨.func (.func g) #[] (cap.map ρ), by simp [Instr.makeFunc], ?_⟩
        exact .fn g (cap.map ρ) as (by simpa using hr.1) (fun j v a h1 h2 => hr.2 j v a (by simpa using h1) h2)
      · simp at ha
    · simp at ha
  | makeMap t rsv =>
    rw [hop] at ho
    cases rsv with
    | some _ => simp [opA] at ho
    | none =>
      simp only [opA, Option.some.injEq] at ho
      subst ho
      have hl := σ.le_setB (b := w.heap.size) (h.idB st.length (Nat.le_refl _))
      have hB : (σ.setB st.length w.heap.size).B st.length = some w.heap.size := by
        show (if _ then _ else _) = _
        rw [if_pos rfl]
      refine val_ok (σ' := σ.setB st.length w.heap.size) (v := .map (some w.heap.size)) (w' := w.alloc (.map #[] 0)) (by simp [Instr.makeMap]) hl ?_ (.mp _ _ hB)
      refine h.step (o := st.length) (x := .amap []) (T := w.heap.size) hl (h.below.alloc (Nat.le_trans h.bsle h.size) _) (fun p hp => by rw [St.get_cons, if_neg hp]) (by rw [St.get_cons, if_pos rfl]) (by simp)
        (fun b _ hb => heap_alloc_lt w _ hb) (fun p y _ hp => unowned h (Nat.le_refl _) p y hp) (fun _ _ _ hv => .inl hv)
        (fun i v hv => absurd (h.imm _ _ _ hv).1 (fun hh => by have := lt_of_cell hh; omega)) (fun _ _ hy => .inl hy) (fun y hy => absurd (h.shp _ _ hy) (fun hh => by have := lt_of_shape hh; omega))
        (fun _ _ _ hy => .inl hy) (fun o' y hy => ?_) (fun _ _ _ _ hy => .inl hy) ?_ trivial (fun b hb => ?_)
      · change (if o' = st.length then some w.heap.size else σ.B o') = some y at hy
        split at hy
        · right; assumption
        · left; exact hy
      · exact ⟨w.heap.size, #[], 0, hB, Nat.le_trans h.bsle h.size, heap_alloc_new w _, rfl, by simp⟩
      · rw [show (σ.setB st.length w.heap.size).B st.length = some b from hb] at hB
        exact Option.some.inj hB
  | makeSlice t l c =>
    rw [hop] at ho; obtain ⟨q, hq, rfl⟩ := vsA_some ho
    obtain ⟨la, hl, h2⟩ := Option.bind_eq_some_iff.1 hq
    obtain ⟨ca, hc, h3⟩ := Option.bind_eq_some_iff.1 h2
    exact val_new (sim_makeSlice h (henv l la hl) (henv c ca hc) h3)
  | slice t x lo hi mx =>
    rw [hop] at ho; obtain ⟨a, ha, rfl⟩ := vA_some ho
    obtain ⟨xa, hx, h2⟩ := Option.bind_eq_some_iff.1 ha
    obtain ⟨bs', hb, h3⟩ := Option.bind_eq_some_iff.1 h2
    have hm := evs_mem hb
    exact val_still h (sim_slice h (henv x xa hx) (repO henv lo (fun y hy => hm y (by cases lo <;> simp_all))) (repO henv hi (fun y hy => hm y (by cases hi <;> simp_all))) (repO henv mx (fun y hy => hm y (by cases mx <;> simp_all))) h3)
  | fieldAddr t x i =>
    rw [hop] at ho; obtain ⟨a, ha, rfl⟩ := vA_some ho
    obtain ⟨xa, hx, h2⟩ := Option.bind_eq_some_iff.1 ha
    exact val_still h (sim_fieldAddr (henv x xa hx) h2)
  | field t x i =>
    rw [hop] at ho; obtain ⟨a, ha, rfl⟩ := vA_some ho
    obtain ⟨xa, hx, h2⟩ := Option.bind_eq_some_iff.1 ha
    exact val_still h (sim_field (henv x xa hx) h2)
  | indexAddr t x i =>
    rw [hop] at ho; obtain ⟨a, ha, rfl⟩ := vA_some ho
    obtain ⟨xa, hx, h2⟩ := Option.bind_eq_some_iff.1 ha
    obtain ⟨ia, hi, h3⟩ := Option.bind_eq_some_iff.1 h2
    exact val_still h (sim_indexAddr h (henv x xa hx) (henv i ia hi) h3)
  | index t x i =>
    rw [hop] at ho; obtain ⟨a, ha, rfl⟩ := vA_some ho
    obtain ⟨xa, hx, h2⟩ := Option.bind_eq_some_iff.1 ha
    obtain ⟨ia, hi, h3⟩ := Option.bind_eq_some_iff.1 h2
    exact val_still h (sim_index (henv x xa hx) (henv i ia hi) h3)
  | lookup t x k ok =>
    rw [hop] at ho; obtain ⟨a, ha, rfl⟩ := vA_some ho
    obtain ⟨xa, hx, h2⟩ := Option.bind_eq_some_iff.1 ha
    obtain ⟨ka, hk, h3⟩ := Option.bind_eq_some_iff.1 h2
    exact val_still h (sim_lookup h (henv x xa hx) (henv k ka hk) h3)
  | mapUpdate t m k x =>
    rw [hop] at ho; obtain ⟨q, hq, rfl⟩ := usA_some ho
    obtain ⟨ma, hm, h2⟩ := Option.bind_eq_some_iff.1 hq
    obtain ⟨ka, hk, h3⟩ := Option.bind_eq_some_iff.1 h2
    obtain ⟨xa, hx, h4⟩ := Option.bind_eq_some_iff.1 h3
    exact skip_ok (sim_mapUpdate h (henv m ma hm) (henv k ka hk) (henv x xa hx) h4)
  | range t x =>
    rw [hop] at ho; obtain ⟨q, hq, rfl⟩ := vsA_some ho
    obtain ⟨xa, hx, h2⟩ := Option.bind_eq_some_iff.1 hq
    exact val_new (sim_range h (henv x xa hx) h2)
  | next x isStr =>
    rw [hop] at ho; obtain ⟨q, hq, rfl⟩ := vsA_some ho
    obtain ⟨xa, hx, h2⟩ := Option.bind_eq_some_iff.1 hq
    exact val_same (sim_next h (henv x xa hx) h2)
  | typeAssert x xt t ok =>
    rw [hop] at ho; obtain ⟨a, ha, rfl⟩ := vA_some ho
    obtain ⟨xa, hx, h2⟩ := Option.bind_eq_some_iff.1 ha
    exact val_still h (sim_assert (henv x xa hx) h2)
  | extract t i =>
    rw [hop] at ho; obtain ⟨a, ha, rfl⟩ := vA_some ho
    obtain ⟨xa, hx, h2⟩ := Option.bind_eq_some_iff.1 ha
    exact val_still h (sim_extract (henv t xa hx) h2)
  | call c =>
    rw [hop] at ho
    simp only [opA, callBA] at ho
    split at ho
    · rename_i b hc
      obtain ⟨as, has, h2⟩ := Option.bind_eq_some_iff.1 ho
      have hr := sim_builtin (ty := o.type) (cs := c.args.map fun | .const _ => true | _ => false) h (reps_evs henv has) h2
      simp only [resolve, hc]
      rw [toArray_map] at hr
      exact hr
    · rename_i g hc
      obtain ⟨F, hF, h2⟩ := Option.bind_eq_some_iff.1 ho
      obtain ⟨as, has, h3⟩ := Option.bind_eq_some_iff.1 h2
      obtain ⟨a, ha, rfl⟩ := vA_some h3
      obtain ⟨v, h4, h5⟩ := hX g F hF W bs σ st w _ as a h (reps_evs henv has) ha
      rw [toArray_map] at h4
      refine ⟨v, w, σ, ?_, .refl _, h, h5⟩
      simp only [resolve, hc, hfn, Deferred.ofValue, Sem.run_bind, Sem.run_pure, Result.andThen_ok, invoke, Array.empty_append, Array.append_empty]
      exact h4
    · simp at ho
  | defer c =>
    rw [hop] at ho
    simp only [opA, deferA] at ho
    split at ho
    · rename_i x hc
      obtain ⟨fv, hfv, h2⟩ := Option.bind_eq_some_iff.1 ho
      split at h2
      · rename_i g cap
        obtain ⟨as, has, rfl⟩ := Option.map_eq_some_iff.1 h2
        have hr := henv x _ hfv
        generalize hρ : ρ x = xv at hr
        cases hr with
        | fn _ cs _ hs hcap =>
        have hargs := reps_evs henv has
        refine ⟨cs, c.args.map ρ, w, σ, ?_, .refl _, h, ?_⟩
        · simp [resolve, hc, hρ, Deferred.ofValue]
        · have := hargs.append (us := cs.toList) (bs := cap) ⟨by simpa using hs, fun j v a h1 h2 => hcap j v a (by simpa using h1) h2⟩
          simpa using this
      · simp at h2
    · simp at ho
  | panic x =>
    rw [hop] at ho
    obtain ⟨xa, hx, h2⟩ := Option.bind_eq_some_iff.1 ho
    unfold panicA at h2
    split at h2
    · cases h2
      have hr := henv x _ hx
      generalize hρ : ρ x = xv at hr
      have hr' := hr
      cases hr
      exact ⟨_, w, σ, by simp [hρ, Instr.panic], .refl _, h, hr'⟩
    · simp at h2
  | _ => rw [hop] at ho; simp [opA] at ho
end
end Go.Abs

/- The interpreter by value: frames; regions in their own order. -/
namespace Go.Abs
open Go Go.RowKit
set_option linter.unusedVariables false
set_option linter.unusedSimpArgs false

section
variable {P : Program} {H : Hints} {W : World} {bs : Nat} {σ σ' : Gh} {st : St} {w : World} {f : FuncId} {nt : Nat}

/-- The package-level variables hold what the hints say. -/
def GlobOk (P : Program) (H : Hints) (σ : Gh) : Prop := ∀ g row, H.glob g = some row → Rep P σ (.pointer (some ⟨g, 0, none⟩)) (.ip row 0)
theorem GlobOk.mono (h : GlobOk P H σ) (hl : σ.Le σ') : GlobOk P H σ' := fun g row hg => (h g row hg).mono hl

/-- A frame's slots. -/
structure EnvOk (P : Program) (H : Hints) (f : FuncId) (σ : Gh) (nt : Nat) (tmps : Array Value) (loc env : Env) : Prop where
  size : nt ≤ tmps.size
  val : ∀ t v, look loc env t = some v → Rep P σ (tmps.getD t undef) v
  loc : ∀ t v, Env.get loc t = some v → (H.keep f).contains t = false
  kept : ∀ t v, Env.get env t = some v → (H.keep f).contains t = true
  srt : env.Pairwise fun p q => p.1 < q.1

def DefOk (P : Program) (σ : Gh) (d : Deferred) (p : FuncId × List AV) : Prop := ∃ cap args, d = ⟨.fn (.func p.1) cap, args⟩ ∧ Reps P σ (args.toList ++ cap.toList) p.2
inductive DefsOk (P : Program) (σ : Gh) : List Deferred → List (FuncId × List AV) → Prop where
  | nil : DefsOk P σ [] []
  | cons {d : Deferred} {p : FuncId × List AV} {ds : List Deferred} {ps : List (FuncId × List AV)} (h : DefOk P σ d p) (hs : DefsOk P σ ds ps) : DefsOk P σ (d :: ds) (p :: ps)

theorem EnvOk.mono {tmps : Array Value} {loc env : Env} (h : EnvOk P H f σ nt tmps loc env) (hl : σ.Le σ') : EnvOk P H f σ' nt tmps loc env := ⟨h.size, fun t v hv => (h.val t v hv).mono hl, h.loc, h.kept, h.srt⟩
theorem DefsOk.mono {ds : List Deferred} {ps : List (FuncId × List AV)} (h : DefsOk P σ ds ps) (hl : σ.Le σ') : DefsOk P σ' ds ps := by
  induction h with
  | nil => exact .nil
  | cons h _ ih =>
    obtain ⟨cap, args, rfl, hr⟩ := h
    exact .cons ⟨cap, args, rfl, hr.mono hl⟩ ih

structure FrOk (P : Program) (H : Hints) (f : FuncId) (σ : Gh) (nt : Nat) (a : Act) (loc : Env) (fr : Fr) : Prop where
  env : EnvOk P H f σ nt a.tmps loc fr.env
  defs : DefsOk P σ a.defers fr.defers
theorem FrOk.mono {a : Act} {loc : Env} {fr : Fr} (h : FrOk P H f σ nt a loc fr) (hl : σ.Le σ') : FrOk P H f σ' nt a loc fr := ⟨h.env.mono hl, h.defs.mono hl⟩

theorem Env.get_set : ∀ (e : Env) (t s : Nat) (v : AV), Env.get (Env.set e t v) s = if s = t then some v else Env.get e s
  | [], t, s, v => by
    simp only [Env.set, Env.get]
    by_cases h : t = s
    · subst h; simp
    · rw [if_neg h, if_neg (fun e => h e.symm)]
  | (k, u) :: r, t, s, v => by
    simp only [Env.set]
    split
    · rename_i hk
      subst hk
      simp only [Env.get]
      by_cases h : k = s
      · subst h; simp
      · rw [if_neg h, if_neg (fun e => h e.symm), if_neg h]
    · split
      · simp only [Env.get]
        by_cases h : t = s
        · subst h; simp
        · have h' : ¬ s = t := fun e => h e.symm
          rw [if_neg h, if_neg h']
      · rename_i hk _
        simp only [Env.get]
        by_cases h : k = s
        · subst h
          rw [if_pos rfl, if_neg (fun e => hk e), if_pos rfl]
        · rw [if_neg h, if_neg h, Env.get_set r t s v]

theorem Env.mem_set : ∀ {e : Env} {t : Nat} {v : AV} {p : Nat × AV}, p ∈ Env.set e t v → p = (t, v) ∨ p ∈ e
  | [], t, v, p, h => by simpa [Env.set] using h
  | (k, u) :: r, t, v, p, h => by
    simp only [Env.set] at h
    split at h
    · rcases List.mem_cons.1 h with h | h
      · exact .inl h
      · exact .inr (List.mem_cons_of_mem _ h)
    · split at h
      · rcases List.mem_cons.1 h with h | h
        · exact .inl h
        · exact .inr h
      · rcases List.mem_cons.1 h with h | h
        · exact .inr (h ▸ List.mem_cons_self)
        · rcases Env.mem_set h with h | h
          · exact .inl h
          · exact .inr (List.mem_cons_of_mem _ h)
theorem Env.set_srt : ∀ {e : Env} {t : Nat} {v : AV}, e.Pairwise (fun p q => p.1 < q.1) → (Env.set e t v).Pairwise fun p q => p.1 < q.1
  | [], t, v, _ => by simp [Env.set]
  | (k, u) :: r, t, v, h => by
    obtain ⟨h1, h2⟩ := List.pairwise_cons.1 h
    simp only [Env.set]
    split
    · rename_i hk
      subst hk
      exact List.pairwise_cons.2 ⟨h1, h2⟩
    · split
      · rename_i hk hlt
        refine List.pairwise_cons.2 ⟨fun q hq => ?_, h⟩
        rcases List.mem_cons.1 hq with rfl | hq
        · exact hlt
        · exact Nat.lt_trans hlt (h1 q hq)
      · rename_i hk hlt
        refine List.pairwise_cons.2 ⟨fun q hq => ?_, Env.set_srt h2⟩
        rcases Env.mem_set hq with rfl | hq
        · show k < t; omega
        · exact h1 q hq
theorem Env.get_mem : ∀ {e : Env} {t : Nat} {v : AV}, Env.get e t = some v → (t, v) ∈ e
  | [], t, v, h => by simp [Env.get] at h
  | (k, u) :: r, t, v, h => by
    simp only [Env.get] at h
    split at h
    · rename_i hk; subst hk; cases h; exact List.mem_cons_self
    · exact List.mem_cons_of_mem _ (Env.get_mem h)
theorem Env.mem_get : ∀ {e : Env} {t : Nat} {v : AV}, e.Pairwise (fun p q => p.1 < q.1) → (t, v) ∈ e → Env.get e t = some v
  | (k, u) :: r, t, v, hs, h => by
    obtain ⟨h1, h2⟩ := List.pairwise_cons.1 hs
    simp only [Env.get]
    rcases List.mem_cons.1 h with h | h
    · cases h; simp
    · have := h1 _ h
      rw [if_neg (show ¬ k = t from Nat.ne_of_lt this)]
      exact Env.mem_get h2 h
theorem Env.get_filter {e : Env} {t : Nat} {v : AV} {p : Nat × AV → Bool} (hs : e.Pairwise fun p q => p.1 < q.1) (h : Env.get (e.filter p) t = some v) : Env.get e t = some v ∧ p (t, v) = true := by
  have := List.mem_filter.1 (Env.get_mem h)
  exact ⟨Env.mem_get hs this.1, this.2⟩

theorem EnvOk.drop {tmps : Array Value} {loc env : Env} (h : EnvOk P H f σ nt tmps loc env) : EnvOk P H f σ nt tmps [] env := by
  refine ⟨h.size, fun t v hv => ?_, fun t v hv => by simp [Env.get] at hv, h.kept, h.srt⟩
  have hv' : Env.get env t = some v := by simpa [look, Env.get] using hv
  refine h.val t v ?_
  unfold look
  cases hl : Env.get loc t with
  | none => exact hv'
  | some u =>
    have h1 := h.loc t u hl
    have h2 := h.kept t v hv'
    rw [h1] at h2; simp at h2
theorem FrOk.drop {a : Act} {loc : Env} {fr : Fr} (h : FrOk P H f σ nt a loc fr) : FrOk P H f σ nt a [] fr := ⟨h.env.drop, h.defs⟩

theorem getD_set (tmps : Array Value) (d t : Nat) (v : Value) (hd : d < tmps.size) : (tmps.setIfInBounds d v).getD t undef = if t = d then v else tmps.getD t undef := by
  by_cases h : t = d
  · subst h
    rw [if_pos rfl]
    simp [Array.getD, hd]
  · rw [if_neg h]
    simp only [Array.getD_eq_getD_getElem?]
    rw [Array.getElem?_setIfInBounds_ne (fun e => h e.symm)]

theorem EnvOk.put {tmps : Array Value} {loc env : Env} {d : Nat} {v : Value} {x : AV} (h : EnvOk P H f σ nt tmps loc env) (hd : d < nt) (hv : Rep P σ v x) :
    EnvOk P H f σ nt (tmps.setIfInBounds d v) (putD H f (some d) x loc env).1 (putD H f (some d) x loc env).2 := by
  have hds : d < tmps.size := Nat.lt_of_lt_of_le hd h.size
  unfold putD
  by_cases hk : (H.keep f).contains d = true
  · simp only [hk, if_true]
    refine ⟨by simpa using h.size, fun t u hu => ?_, h.loc, fun t u hu => ?_, Env.set_srt h.srt⟩
    · rw [getD_set _ _ _ _ hds]
      unfold look at hu
      cases hl : Env.get loc t with
      | some u' =>
        rw [hl] at hu
        have hne : t ≠ d := fun e => by subst e; have := h.loc t u' hl; rw [hk] at this; simp at this
        rw [if_neg hne]
        cases hu
        exact h.val t _ (by simp [look, hl])
      | none =>
        rw [hl] at hu
        simp only [Env.get_set] at hu
        by_cases e : t = d
        · rw [if_pos e] at hu ⊢; cases hu; exact hv
        · rw [if_neg e] at hu ⊢
          exact h.val t _ (by simp [look, hl, hu])
    · rw [Env.get_set] at hu
      by_cases e : t = d
      · subst e; exact hk
      · rw [if_neg e] at hu; exact h.kept t u hu
  · simp only [hk, Bool.false_eq_true, if_false]
    have hk' : (H.keep f).contains d = false := by simpa using hk
    refine ⟨by simpa using h.size, fun t u hu => ?_, fun t u hu => ?_, h.kept, h.srt⟩
    · rw [getD_set _ _ _ _ hds]
      unfold look at hu
      simp only [Env.get] at hu
      by_cases e : d = t
      · rw [if_pos e] at hu
        rw [if_pos e.symm]
        cases hu; exact hv
      · rw [if_neg e] at hu
        rw [if_neg (fun x => e x.symm)]
        exact h.val t _ hu
    · simp only [Env.get] at hu
      by_cases e : d = t
      · subst e; exact hk'
      · rw [if_neg e] at hu; exact h.loc t u hu

theorem FrOk.put {a : Act} {loc : Env} {fr : Fr} {dst : Option Tmp} {v : Value} {x : AV} (h : FrOk P H f σ nt a loc fr) (hd : ∀ d, dst = some d → d < nt) (hv : Rep P σ v x) :
    FrOk P H f σ nt (a.put dst v) (putD H f dst x loc fr.env).1 { fr with env := (putD H f dst x loc fr.env).2 } := by
  cases dst with
  | none => exact h
  | some d => exact ⟨h.env.put (hd d rfl) hv, h.defs⟩

theorem FrOk.eval {a : Act} {loc : Env} {fr : Fr} (h : FrOk P H f σ nt a loc fr) (hg : GlobOk P H σ) : ∀ x v, evO H loc fr.env x = some v → Rep P σ (a.eval x) v
  | .tmp t, v, hv => h.env.val t v hv
  | .const u, v, hv => ofVal_rep 6 u v hv
  | .global g, v, hv => by
    obtain ⟨row, hr, rfl⟩ := Option.map_eq_some_iff.1 hv
    exact hg g row hr
  | .func g, v, hv => by
    simp only [evO, Option.some.injEq] at hv
    subst hv
    exact .fn g #[] [] rfl (by simp)

theorem sim_want {a : Act} {loc : Env} {fr : Fr} {ops : Array Oper} {o : Oper} {b : Bool} (h : FrOk P H f σ nt a loc fr) (hw : wantA ops loc fr.env o = some b) : Region.wanted o (yielded ops a.tmps) = b := by
  unfold wantA at hw
  unfold Region.wanted
  split at hw
  · rename_i hg
    cases hw
    rw [hg]
  · rename_i j want hg
    obtain ⟨d, hd, h2⟩ := Option.bind_eq_some_iff.1 hw
    obtain ⟨v, hv, h3⟩ := Option.bind_eq_some_iff.1 h2
    have hr := h.env.val d v hv
    rw [hg]
    unfold yielded
    simp only [hd, Option.bind_some]
    split at h3
    · rename_i b'
      cases h3
      generalize hx : a.tmps.getD d undef = x at hr
      cases hr
      have : a.tmps[d]? = some (.bool b') := by
        rw [Array.getD_eq_getD_getElem?] at hx
        cases he : a.tmps[d]? with
        | none => rw [he] at hx; simp [undef] at hx
        | some y => rw [he] at hx; simp at hx; rw [hx]
      rw [this]
      cases b' <;> cases want <;> rfl
    · cases h3
      generalize hx : a.tmps.getD d undef = x at hr
      cases hr with
      | tup cs as hs hR =>
      have : a.tmps[d]? = none ∨ a.tmps[d]? = some (.tuple cs) := by
        rw [Array.getD_eq_getD_getElem?] at hx
        cases he : a.tmps[d]? with
        | none => exact .inl rfl
        | some y => rw [he] at hx; simp at hx; rw [hx]; exact .inr rfl
      rcases this with e | e <;> rw [e] <;> rfl
    · simp at h3

theorem EnvOk.filter {tmps : Array Value} {env : Env} {p : Nat × AV → Bool} (h : EnvOk P H f σ nt tmps [] env) : EnvOk P H f σ nt tmps [] (env.filter p) := by
  refine ⟨h.size, fun t v hv => ?_, h.loc, fun t v hv => h.kept t v (Env.get_filter h.srt hv).1, h.srt.filter _⟩
  exact h.val t v (by simpa [look, Env.get] using (Env.get_filter h.srt (by simpa [look, Env.get] using hv)).1)

/-! ### Down to the oldest objects -/
theorem Gh.Le.trunc {n : Nat} (hl : σ.Le σ') (hR : ∀ o e, n ≤ o → σ.R o e = none) (hB : ∀ o, n ≤ o → σ.B o = none) (hL : ∀ o e k, n ≤ o → σ.L o e k = none) : σ.Le (σ'.trunc n) := by
  refine ⟨hl.I, hl.sh, fun o e x hx => ?_, fun o x hx => ?_, fun t e k x hx => ?_, hl.lo⟩
  · show (if o < n then _ else _) = _
    by_cases h : o < n
    · rw [if_pos h]; exact hl.R _ _ _ hx
    · rw [hR o e (by omega)] at hx; simp at hx
  · show (if o < n then _ else _) = _
    by_cases h : o < n
    · rw [if_pos h]; exact hl.B _ _ hx
    · rw [hB o (by omega)] at hx; simp at hx
  · show (if t < n then _ else _) = _
    by_cases h : t < n
    · rw [if_pos h]; exact hl.L _ _ _ _ hx
    · rw [hL t e k (by omega)] at hx; simp at hx
end
end Go.Abs

/- The interpreter by value: regions in their own order. -/
namespace Go.Abs
open Go Go.RowKit
set_option linter.unusedVariables false
set_option linter.unusedSimpArgs false

section
variable {P : Program} {H : Hints} {W : World} {bs : Nat} {σ σ' : Gh} {st : St} {w : World} {f : FuncId} {nt base : Nat}

def EndOk (P : Program) (W : World) (bs : Nat) (σ : Gh) (o : AOut) (st' : St) : Ending → World → Prop
  | .returned v, w' => ∃ a σ', o = .ret a ∧ σ.Le σ' ∧ WF P W bs σ' st' w' ∧ Rep P σ' v a
  | .panicked ch, w' => ∃ a v σ', o = .pan a ∧ ch = [{ v := v, recovered := false }] ∧ σ.Le σ' ∧ WF P W bs σ' st' w' ∧ Rep P σ' v a
  | .outgrown, _ => False

/-- A function with a body, that may be entered. -/
def Has (P : Program) (g : FuncId) : Prop := ∃ fn, P.funcs[g]? = some fn ∧ fn.body.isNone = false ∧ (fn.name == "runtime.NumGoroutine") = false

abbrev CallF := FuncId → List AV → St → Option (AOut × St)
/-- What calls come to. -/
def CallOk (P : Program) (H : Hints) (W : World) (bs : Nat) (callF : CallF) : Prop :=
  ∀ g as st r, callF g as st = some r → Has P g ∧ ∀ σ w vs, WF P W bs σ st w → GlobOk P H σ → Reps P σ vs as → Calls P g vs.toArray w (EndOk P W bs σ r.1 r.2)

theorem run_callFunc {g : FuncId} (h : Has P g) (args : Array Value) : (callFunc g args).run P w = .ok (.enter g args) w := by
  obtain ⟨fn, h1, h2, h3⟩ := h
  simp only [callFunc, Sem.run_bind, run_program, Result.andThen_ok, h1, h2, h3, Bool.false_eq_true, if_false, Sem.run_pure]

theorem oper_mono {o : Oper} {a : Act} {w : World} {K K' : Act → World → Prop} {Q Q' : Exit → Act → World → Prop} (h : ∀ a w, K a w → K' a w) (hq : ∀ e a w, Q e a w → Q' e a w) (hh : o.wp P a w K Q) : o.wp P a w K' Q' := by
  unfold Oper.wp at *
  generalize (execOp a.eval o).run P w = r at *
  cases r with
  | ok n w' =>
    cases n <;> simp only [Oper.upon] at hh ⊢ <;>
      first
        | exact h _ _ hh
        | exact Calls.mono hh (fun e w'' he => by
            cases e with
            | returned v => exact h _ _ he
            | panicked ch => exact hq _ _ _ he
            | outgrown => exact ⟨he.choose, he.choose_spec.choose, hq _ _ _ he.choose_spec.choose_spec⟩)
        | exact Rows.mono hh (fun _ _ he => h _ _ he)
  | halt x w' => cases x <;> simp only [Oper.upon] at hh ⊢ <;> first | exact hq _ _ _ hh | exact hh

theorem wpOps_mono {ops : Array Oper} {Q Q' : Exit → Act → World → Prop} (hq : ∀ e a w, Q e a w → Q' e a w) : ∀ {l : List Nat} {a : Act} {w : World}, wpOps P ops Q l a w → wpOps P ops Q' l a w
  | [], a, w, h => hq _ _ _ h
  | i :: rest, a, w, h => by
    simp only [wpOps] at h ⊢
    split
    · rename_i ho
      simp only [ho] at h
      exact wpOps_mono hq h
    · rename_i o ho
      simp only [ho] at h
      split
      · rename_i hw
        simp only [hw, if_true] at h
        rcases h with h | ⟨h, a', w', h'⟩
        · exact .inl (oper_mono (fun _ _ hk => wpOps_mono hq hk) hq h)
        · exact .inr ⟨h, a', w', hq _ _ _ h'⟩
      · rename_i hw
        simp only [hw] at h
        exact wpOps_mono hq h

theorem sim_stepV {callF : CallF} {o : Oper} {ev : Operand → Option AV} {a : Act} {r : Res × St} {next : Act → World → Prop} {Q : Exit → Act → World → Prop}
    (hX : ExtOk P H) (hC : CallOk P H W bs callF) (h : WF P W bs σ st w) (hg : GlobOk P H σ) (henv : ∀ x v, ev x = some v → Rep P σ (a.eval x) v) (hs : stepV P H callF f base o ev st = some r)
    (hval : ∀ v x w' σ', r.1 = .val x → σ.Le σ' → WF P W bs σ' r.2 w' → Rep P σ' v x → next (a.put o.dst v) w')
    (hskip : ∀ w' σ', r.1 = .skip → σ.Le σ' → WF P W bs σ' r.2 w' → next (a.put o.dst undef) w')
    (hdefer : ∀ g as d w' σ', r.1 = .defer g as → σ.Le σ' → WF P W bs σ' r.2 w' → DefOk P σ' d (g, as) → next ({ a with defers := d :: a.defers }.put o.dst undef) w')
    (hpan : ∀ v x w' σ', r.1 = .pan x → σ.Le σ' → WF P W bs σ' r.2 w' → Rep P σ' v x → Q (.panic [{ v := v, recovered := false }]) a w') :
    o.wp P a w next Q := by
  unfold stepV at hs
  -- a call's own way
  have called : ∀ g as (vs : List Value), callOf H (ev) o.op = some (some (g, as)) → Reps P σ vs as → (Has P g → (execOp a.eval o).run P w = .ok (.enter g vs.toArray) w) → o.wp P a w next Q := by
    intro g as vs hco hr hrun
    rw [hco] at hs
    obtain ⟨q, hq, h2⟩ := Option.map_eq_some_iff.1 hs
    obtain ⟨hh, hcall⟩ := hC g as st q hq
    unfold Oper.wp
    rw [hrun hh, Oper.upon_enter]
    refine (hcall σ w vs h hg hr).mono fun e w' he => ?_
    cases e with
    | returned v =>
      obtain ⟨x, σ', e1, e2, e3, e4⟩ := he
      rw [e1] at h2
      subst h2
      exact hval v x w' σ' rfl e2 e3 e4
    | panicked ch =>
      obtain ⟨x, v, σ', e1, rfl, e2, e3, e4⟩ := he
      rw [e1] at h2
      subst h2
      exact hpan v x w' σ' rfl e2 e3 e4
    | outgrown => exact he.elim
  cases hco : callOf H (ev) o.op with
  | none =>
    rw [hco] at hs
    have hr := sim_op hX (fun g => rfl) henv h hs
    unfold Oper.wp
    obtain ⟨res, st'⟩ := r
    cases res with
    | val x =>
      obtain ⟨v, w', σ', e1, e2, e3, e4⟩ := hr
      rw [e1, Oper.upon_value]
      exact hval v x w' σ' rfl e2 e3 e4
    | skip =>
      obtain ⟨w', σ', e1, e2, e3⟩ := hr
      rw [e1, Oper.upon_skip]
      exact hskip w' σ' rfl e2 e3
    | defer g as =>
      obtain ⟨cap, args, w', σ', e1, e2, e3, e4⟩ := hr
      rw [e1, Oper.upon_defer]
      exact hdefer g as _ w' σ' rfl e2 e3 ⟨cap, args, rfl, e4⟩
    | pan x =>
      obtain ⟨v, w', σ', e1, e2, e3, e4⟩ := hr
      rw [e1, Oper.upon_panic]
      exact hpan v x w' σ' rfl e2 e3 e4
  | some c =>
    cases c with
    | none => rw [hco] at hs; simp at hs
    | some ga =>
      obtain ⟨g, as⟩ := ga
      have hco' := hco
      unfold callOf at hco
      split at hco
      · rename_i c hop
        split at hco
        · rename_i x hcal
          split at hco
          · rename_i g'
            split at hco
            · simp at hco
            · simp only [Option.some.injEq] at hco
              obtain ⟨as', has, e1⟩ := Option.map_eq_some_iff.1 hco
              cases e1
              have hr := reps_evs henv has
              refine called g as _ hco' hr (fun hh => ?_)
              rw [toArray_map]
              simp only [execOp, hop, resolve, hcal, Act.eval, Deferred.ofValue, Sem.run_bind, Sem.run_pure, Result.andThen_ok, invoke, Array.empty_append, Array.append_empty]
              exact run_callFunc hh _
          · simp only [Option.some.injEq] at hco
            obtain ⟨fv, hfv, h3⟩ := Option.bind_eq_some_iff.1 hco
            split at h3
            · rename_i g' cap
              split at h3
              · simp at h3
              · obtain ⟨as', has, e1⟩ := Option.map_eq_some_iff.1 h3
                cases e1
                have hr := reps_evs henv has
                have hfr := henv x _ hfv
                generalize hx : a.eval x = xv at hfr
                cases hfr with
                | fn _ cs _ hcs hcap =>
                have hrr := hr.append (us := cs.toList) (bs := cap) ⟨by simpa using hcs, fun j v b h1 h2 => hcap j v b (by simpa using h1) h2⟩
                refine called g _ _ hco' hrr (fun hh => ?_)
                have e2 : (List.map a.eval c.args.toList ++ cs.toList).toArray = c.args.map a.eval ++ cs := by apply Array.ext'; simp
                rw [e2]
                simp only [execOp, hop, resolve, hcal, hx, Deferred.ofValue, Sem.run_bind, Sem.run_pure, Result.andThen_ok, invoke, Array.empty_append]
                exact run_callFunc hh _
            · simp at h3
        · simp at hco
      · simp at hco

theorem sim_step {callF : CallF} {o : Oper} {loc : Env} {fr : Fr} {a : Act} {r : Res × St} {next : Act → World → Prop} {Q : Exit → Act → World → Prop}
    (hX : ExtOk P H) (hC : CallOk P H W bs callF) (h : WF P W bs σ st w) (hg : GlobOk P H σ) (hf : FrOk P H f σ nt a loc fr) (hs : stepA P H callF f base o loc fr.env st = some r)
    (hval : ∀ v x w' σ', r.1 = .val x → σ.Le σ' → WF P W bs σ' r.2 w' → Rep P σ' v x → next (a.put o.dst v) w')
    (hskip : ∀ w' σ', r.1 = .skip → σ.Le σ' → WF P W bs σ' r.2 w' → next (a.put o.dst undef) w')
    (hdefer : ∀ g as d w' σ', r.1 = .defer g as → σ.Le σ' → WF P W bs σ' r.2 w' → DefOk P σ' d (g, as) → next ({ a with defers := d :: a.defers }.put o.dst undef) w')
    (hpan : ∀ v x w' σ', r.1 = .pan x → σ.Le σ' → WF P W bs σ' r.2 w' → Rep P σ' v x → Q (.panic [{ v := v, recovered := false }]) a w') :
    o.wp P a w next Q :=
   sim_stepV hX hC h hg (hf.eval hg) hs hval hskip hdefer hpan

/-! ### What is put into the frame -/
def ExitOk (P : Program) (σ : Gh) : Exit → AX → Prop
  | .normal, .normal => True
  | .exit i, .exit j => i = j
  | .goto i, .goto j => i = j
  | .ret, .ret => True
  | .panic ch, .panic a => ∃ v, ch = [{ v := v, recovered := false }] ∧ Rep P σ v a
  | _, _ => False

def PostOk (P : Program) (H : Hints) (W : World) (bs : Nat) (f : FuncId) (nt : Nat) (σ : Gh) (r : AX × Fr × St) (e : Exit) (a : Act) (w : World) : Prop :=
  ∃ σ', σ.Le σ' ∧ WF P W bs σ' r.2.2 w ∧ FrOk P H f σ' nt a [] r.2.1 ∧ ExitOk P σ' e r.1
theorem PostOk.up {r : AX × Fr × St} {e : Exit} {a : Act} {w : World} (hl : σ.Le σ') (h : PostOk P H W bs f nt σ' r e a w) : PostOk P H W bs f nt σ r e a w := by
  obtain ⟨τ, h1, h2⟩ := h
  exact ⟨τ, hl.trans h1, h2⟩

theorem land_val {o : Oper} {loc : Env} {fr : Fr} {a : Act} {v : Value} {x : AV} {l : Env × Fr × St} (h : WF P W bs σ st w) (hf : FrOk P H f σ nt a loc fr) (hd : ∀ d, o.dst = some d → d < nt) (hv : Rep P σ v x)
    (hl : landA H f o (.val x) loc fr st = some l) : ∃ σ', σ.Le σ' ∧ WF P W bs σ' l.2.2 w ∧ FrOk P H f σ' nt (a.put o.dst v) l.1 l.2.1 := by
  unfold landA at hl
  cases hod : o.dst with
  | none =>
    rw [hod] at hl
    simp only [Option.some.injEq] at hl
    subst hl
    exact ⟨σ, .refl _, h, hf⟩
  | some d =>
    rw [hod] at hl
    simp only at hl
    obtain ⟨q, hq, rfl⟩ := Option.map_eq_some_iff.1 hl
    have : ∃ σ', σ.Le σ' ∧ WF P W bs σ' q.2 w ∧ Rep P σ' v q.1 := by
      split at hq
      · exact sim_freeze h hv hq
      · cases hq; exact ⟨σ, .refl _, h, hv⟩
    obtain ⟨σ', h1, h2, h3⟩ := this
    exact ⟨σ', h1, h2, (hf.mono h1).put (dst := some d) (fun d' hd' => hd d' (by rw [hod, hd'])) h3⟩

theorem undef_rep : Rep P σ undef undefA := .tup #[] [] rfl (by simp)

theorem sim_ops {callF : CallF} {ops : Array Oper} (hX : ExtOk P H) (hC : CallOk P H W bs callF) (hdst : ∀ (i : Nat) o d, ops[i]? = some o → o.dst = some d → d < nt) :
    ∀ (l : List Oper) (i : Nat) (loc : Env) (fr : Fr) (st : St) (r : AX × Fr × St) (σ : Gh) (a : Act) (w : World), ops.toList.drop i = l → opsA P H callF f base ops l loc fr st = some r → WF P W bs σ st w → GlobOk P H σ → FrOk P H f σ nt a loc fr →
      wpOps P ops (PostOk P H W bs f nt σ r) (List.range' i l.length) a w
  | [], i, loc, fr, st, r, σ, a, w, hdrop, ho, h, hg, hf => by
    simp only [opsA, Option.some.injEq] at ho
    subst ho
    exact ⟨σ, .refl _, h, hf.drop, trivial⟩
  | o :: rest, i, loc, fr, st, r, σ, a, w, hdrop, ho, h, hg, hf => by
    have hio : ops[i]? = some o := by
      have : (ops.toList.drop i)[0]? = some o := by rw [hdrop]; rfl
      rw [List.getElem?_drop] at this
      simpa using this
    have hrest : ops.toList.drop (i + 1) = rest := by
      rw [← List.drop_drop, hdrop]; rfl
    have hd := hdst i o
    simp only [opsA] at ho
    obtain ⟨b, hb, h2⟩ := Option.bind_eq_some_iff.1 ho
    have hwant := sim_want hf hb
    simp only [List.length_cons, List.range'_succ, wpOps, hio, hwant]
    cases b with
    | false =>
      simp only [Bool.false_eq_true, if_false] at h2 ⊢
      exact sim_ops hX hC hdst rest (i + 1) _ _ _ r σ _ w hrest h2 h hg (hf.put (fun d hd' => hd d hio hd') undef_rep)
    | true =>
      simp only [if_true] at h2 ⊢
      obtain ⟨q, hq, h3⟩ := Option.bind_eq_some_iff.1 h2
      left
      refine sim_step hX hC h hg hf hq (fun v x w' σ' e1 e2 e3 e4 => ?_) (fun w' σ' e1 e2 e3 => ?_) (fun g as d w' σ' e1 e2 e3 e4 => ?_) (fun v x w' σ' e1 e2 e3 e4 => ?_)
      · rw [e1] at h3
        obtain ⟨l, hl, h4⟩ := Option.bind_eq_some_iff.1 h3
        obtain ⟨σ'', k1, k2, k3⟩ := land_val e3 (hf.mono e2) (fun d hd' => hd d hio hd') e4 hl
        have := sim_ops hX hC hdst rest (i + 1) l.1 l.2.1 l.2.2 r σ'' _ w' hrest h4 k2 (hg.mono (e2.trans k1)) k3
        exact wpOps_mono (fun e a w hh => hh.up (e2.trans k1)) this
      · rw [e1] at h3
        obtain ⟨l, hl, h4⟩ := Option.bind_eq_some_iff.1 h3
        simp only [landA, Option.some.injEq] at hl
        subst hl
        have := sim_ops hX hC hdst rest (i + 1) _ _ _ r σ' _ w' hrest h4 e3 (hg.mono e2) ((hf.mono e2).put (fun d hd' => hd d hio hd') undef_rep)
        exact wpOps_mono (fun e a w hh => hh.up e2) this
      · rw [e1] at h3
        obtain ⟨l, hl, h4⟩ := Option.bind_eq_some_iff.1 h3
        simp only [landA, Option.some.injEq] at hl
        subst hl
        have hf2 : FrOk P H f σ' nt { a with defers := d :: a.defers } loc { fr with defers := (g, as) :: fr.defers } := ⟨(hf.mono e2).env, .cons e4 (hf.mono e2).defs⟩
        have := sim_ops hX hC hdst rest (i + 1) _ _ _ r σ' _ w' hrest h4 e3 (hg.mono e2) (hf2.put (fun d hd' => hd d hio hd') undef_rep)
        exact wpOps_mono (fun e a w hh => hh.up e2) this
      · rw [e1] at h3
        simp only [Option.some.injEq] at h3
        subst h3
        exact ⟨σ', e2, e3, (hf.mono e2).drop, v, rfl, e4⟩
end
end Go.Abs

/- The interpreter by value: code. -/
namespace Go.Abs
open Go Go.RowKit
set_option linter.unusedVariables false
set_option linter.unusedSimpArgs false

section
variable {P : Program} {H : Hints} {W : World} {bs : Nat} {σ σ' : Gh} {st : St} {w : World} {f : FuncId} {nt base : Nat}

theorem RepsTrunc {n : Nat} {vs : Array Value} {row : List AV} (hc : AV.closeds n row = true) (h : ∀ (j : Nat) v a, vs[j]? = some v → row[j]? = some a → Rep P σ v a) :
    ∀ (j : Nat) v a, vs[j]? = some v → row[j]? = some a → Rep P (σ.trunc n) v a := fun j v a h1 h2 => (h j v a h1 h2).trunc (AV.closeds_at hc h2)

theorem St.get_mem {st : St} {o : Nat} {x : AObj} (h : st.get o = some x) : x ∈ st := by
  unfold St.get at h
  split at h
  · exact List.mem_of_getElem? h
  · simp at h

theorem WF.truncLe {n : Nat} (h : WF P W bs σ st w) (hn : n ≤ st.length) (hc : St.closed n (st.trunc n) = true) : WF P W bs (σ.trunc n) (st.trunc n) w := by
  have hget : ∀ o x, (st.trunc n).get o = some x → o < n ∧ st.get o = some x ∧ AObj.closed n x = true := fun o x hx => by
    have hcl := List.all_eq_true.1 hc x (St.get_mem hx)
    rw [St.get_trunc hn] at hx
    split at hx
    · rename_i ho; exact ⟨ho, hx, hcl⟩
    · simp at hx
  have tR : ∀ {o e}, o < n → (σ.trunc n).R o e = σ.R o e := fun ho => by show (if _ then _ else _) = _; rw [if_pos ho]
  have tB : ∀ {o}, o < n → (σ.trunc n).B o = σ.B o := fun ho => by show (if _ then _ else _) = _; rw [if_pos ho]
  have tL : ∀ {o e k}, o < n → (σ.trunc n).L o e k = σ.L o e k := fun ho => by show (if _ then _ else _) = _; rw [if_pos ho]
  have town : ∀ {o x b}, o < n → owns (σ.trunc n) o x b → owns σ o x b := fun {o x b} ho hx => by
    cases x with
    | free ep => exact hx
    | box ty row => exact (tB ho).symm.trans hx
    | rows kd ep rs => obtain ⟨y, hy⟩ := hx; exact ⟨y, (tR ho) ▸ hy⟩
    | spare ep k => obtain ⟨y, hy⟩ := hx; exact ⟨y, (tL ho) ▸ hy⟩
    | iter s pos => exact (tB ho).symm.trans hx
    | amap es => exact (tB ho).symm.trans hx
  refine ⟨h.below, h.bsle, h.imm, h.shp, fun o x hx => ?_, fun o x hx => ?_, fun o o' x x' b hx hx' h1 h2 => ?_, fun o e ho => ?_, fun o ho => ?_, fun o e k ho => ?_, h.lo⟩
  · obtain ⟨ho, hg, hcl⟩ := hget o x hx
    have hob := h.obj o x hg
    cases x with
    | free ep => trivial
    | box ty row =>
      obtain ⟨b, vs, h1, h2, h3, h4, h5, h7, h6⟩ := hob
      exact ⟨b, vs, by rw [tB ho]; exact h1, h2, h3, h4, h5, h7, RepsTrunc (by simpa [AObj.closed] using hcl) h6⟩
    | rows kd ep rs =>
      obtain ⟨b, base, h1, h2, h3, h4, h5, h6⟩ := hob
      refine ⟨b, base, by rw [tR ho]; exact h1, h2, h3, h4, h5, fun i r j a q1 q2 => ?_⟩
      obtain ⟨v, q3, q4, q5⟩ := h6 i r j a q1 q2
      exact ⟨v, q3, q4, q5.trunc (AV.closeds_at (AV.closedss_at (by simpa [AObj.closed] using hcl) q1) q2)⟩
    | spare ep k =>
      obtain ⟨b, s, h1, h2, h3⟩ := hob
      exact ⟨b, s, by rw [tL ho]; exact h1, h2, h3⟩
    | iter s pos =>
      obtain ⟨b, s', h1, h2⟩ := hob
      exact ⟨b, s', by rw [tB ho]; exact h1, h2⟩
    | amap es =>
      obtain ⟨b, ents, clock, h1, h2, h3, h4, h5⟩ := hob
      refine ⟨b, ents, clock, by rw [tB ho]; exact h1, h2, h3, h4, fun i e p q1 q2 => ?_⟩
      have := List.all_eq_true.1 (show (es.all fun p => AV.closed n p.1 && AV.closed n p.2) = true from hcl) p (List.mem_of_getElem? q2)
      simp only [Bool.and_eq_true] at this
      obtain ⟨q3, q4⟩ := h5 i e p q1 q2
      exact ⟨q3.trunc this.1, q4.trunc this.2⟩
  · obtain ⟨ho, hg, hcl⟩ := hget o x hx
    have hf := h.fresh o x hg
    cases x with
    | free ep => exact ⟨fun e he => by rw [tR ho]; exact hf.1 e he, fun e k he => by rw [tL ho]; exact hf.2 e k he⟩
    | rows kd ep rs => exact ⟨fun e he => by rw [tR ho]; exact hf.1 e he, fun e k he => by rw [tL ho]; exact hf.2 e k he⟩
    | spare ep k => exact ⟨fun e he => by rw [tR ho]; exact hf.1 e he, fun e k he => by rw [tL ho]; exact hf.2.1 e k he, fun k hk => by rw [tL ho]; exact hf.2.2 k hk⟩
    | _ => trivial
  · obtain ⟨ho, hg, _⟩ := hget o x hx
    obtain ⟨ho', hg', _⟩ := hget o' x' hx'
    exact h.sep o o' x x' b hg hg' (town ho h1) (town ho' h2)
  · rw [St.length_trunc hn] at ho
    show (if o < n then _ else _) = _
    rw [if_neg (by omega)]
  · rw [St.length_trunc hn] at ho
    show (if o < n then _ else _) = _
    rw [if_neg (by omega)]
  · rw [St.length_trunc hn] at ho
    show (if o < n then _ else _) = _
    rw [if_neg (by omega)]

theorem WF.trunc {n : Nat} (h : WF P W bs σ st w) (hc : St.closed n (st.trunc n) = true) : WF P W bs (σ.trunc n) (st.trunc n) w := by
  rcases Nat.le_total n st.length with hn | hn
  · exact h.truncLe hn hc
  · have e1 : st.trunc n = st := by unfold St.trunc; rw [show st.length - n = 0 by omega]; rfl
    have e2 : σ.trunc n = σ := by
      obtain ⟨I, sh, R, B, L, lo⟩ := σ
      unfold Gh.trunc
      congr 1
      · funext o e
        split
        · rfl
        · exact (h.idR o e (by omega)).symm
      · funext o
        split
        · rfl
        · exact (h.idB o (by omega)).symm
      · funext t e k
        split
        · rfl
        · exact (h.idL t e k (by omega)).symm
    rw [e1, e2]; exact h

/-- All slots that a code writes are the function's. -/
def codeOk (H : Hints) (f : FuncId) (nt : Nat) : Code → Bool
  | .region id ops d => (ops.toList.all fun o => match o.dst with | some d => decide (d < nt) | none => true) && (!d || drawOk H f id ops)
  | .seq a b => codeOk H f nt a && codeOk H f nt b
  | .cond _ a b => codeOk H f nt a && codeOk H f nt b
  | .block _ b => codeOk H f nt b
  | .loop b => codeOk H f nt b
  | .rangeFunc _ _ a b => codeOk H f nt a && codeOk H f nt b
  | .scope b => codeOk H f nt b
  | _ => true

theorem codeOk_label : ∀ {c rest : Code} {l : Nat}, codeOk H f nt c = true → findLabel c l = some rest → codeOk H f nt rest = true
  | .seq a b, rest, l, h, hl => by
    simp only [codeOk, Bool.and_eq_true] at h
    simp only [findLabel] at hl
    split at hl
    · rename_i r hr
      cases hl
      simp only [codeOk, Bool.and_eq_true]
      exact ⟨codeOk_label h.1 hr, h.2⟩
    · exact codeOk_label h.2 hl
  | .label l', rest, l, h, hl => by
    simp only [findLabel] at hl
    split at hl
    · cases hl; rfl
    · simp at hl
  | .skip, _, _, _, hl => by simp [findLabel] at hl
  | .region _ _ _, _, _, _, hl => by simp [findLabel] at hl
  | .cond _ _ _, _, _, _, hl => by simp [findLabel] at hl
  | .block _ _, _, _, _, hl => by simp [findLabel] at hl
  | .loop _, _, _, _, hl => by simp [findLabel] at hl
  | .rangeFunc _ _ _ _, _, _, _, hl => by simp [findLabel] at hl
  | .exit _, _, _, _, hl => by simp [findLabel] at hl
  | .scope _, _, _, _, hl => by simp [findLabel] at hl
  | .goto _, _, _, _, hl => by simp [findLabel] at hl
  | .ret, _, _, _, hl => by simp [findLabel] at hl
  | .refuse _, _, _, _, hl => by simp [findLabel] at hl

def taskOk (H : Hints) (f : FuncId) (nt : Nat) : Task → Bool
  | .code c => codeOk H f nt c
  | .round c => codeOk H f nt c
  | .resume body rest => codeOk H f nt body && codeOk H f nt rest

/-- A task's run ends in what Q says. -/
def TaskWp (P : Program) (Q : Exit → Act → World → Prop) (a : Act) (w : World) : Task → Prop
  | .code c => c.wp P Q a w
  | .round body => ∀ (b : Frame) (k : List Item) (cs : List Frame), ∃ e a' w', Q e a' w' ∧ Arrives P (lone (b.at a (.inLoop body :: k)) cs w) b k cs e a' w'
  | .resume body rest => ∀ (b : Frame) (k : List Item) (cs : List Frame), ∃ e a' w', Q e a' w' ∧ Arrives P (lone (b.at a (.code rest :: .inScope body :: k)) cs w) b k cs e a' w'

abbrev AgainF := Task → Fr → St → Option (AX × Fr × St)
def AgainOk (P : Program) (H : Hints) (W : World) (bs : Nat) (f : FuncId) (nt : Nat) (again : AgainF) : Prop :=
  ∀ t fr st r, taskOk H f nt t = true → again t fr st = some r → ∀ σ a w, WF P W bs σ st w → GlobOk P H σ → FrOk P H f σ nt a [] fr → TaskWp P (PostOk P H W bs f nt σ r) a w t

def RegionOk (P : Program) (H : Hints) (W : World) (bs : Nat) (f : FuncId) (nt base : Nat) (callF : CallF) : Prop :=
  ∀ id ops draw fr st r, codeOk H f nt (.region id ops draw) = true → regionA P H callF f base id ops draw fr st = some r → ∀ σ a w, WF P W bs σ st w → GlobOk P H σ → FrOk P H f σ nt a [] fr → (Code.region id ops draw).wp P (PostOk P H W bs f nt σ r) a w

theorem sim_roundEnd {n : Nat} {fr : Fr} {e : Fr × St} {a : Act} {σ0 : Gh} {st0 : St} {w0 : World} (h0 : WF P W bs σ0 st0 w0) (hl : σ0.Le σ) (h : WF P W bs σ st w) (hn : st0.length = n)
    (hf : FrOk P H f σ nt a [] fr) (hr : roundEnd H f n fr st = some e) : ∃ σ', σ0.Le σ' ∧ WF P W bs σ' e.2 w ∧ FrOk P H f σ' nt a [] e.1 := by
  unfold roundEnd at hr
  split at hr
  · cases hr; exact ⟨σ, hl, h, hf⟩
  · split at hr
    · rename_i hc
      cases hr
      simp only [Bool.and_eq_true] at hc
      refine ⟨σ.trunc n, hl.trunc (fun o e ho => h0.idR o e (by omega)) (fun o ho => h0.idB o (by omega)) (fun o e k ho => h0.idL o e k (by omega)), h.trunc hc.1, ?_, ?_⟩
      · have hf' := hf.env.filter (p := fun p => AV.closed n p.2)
        refine ⟨hf'.size, fun t v hv => (hf'.val t v hv).trunc ?_, hf'.loc, hf'.kept, hf'.srt⟩
        exact (Env.get_filter hf.env.srt (by simpa [look, Env.get] using hv)).2
      · have hd := hc.2
        have key : ∀ {ds : List Deferred} {ps : List (FuncId × List AV)}, DefsOk P σ ds ps → (ps.all fun d => AV.closeds n d.2) = true → DefsOk P (σ.trunc n) ds ps := by
          intro ds ps hds
          induction hds with
          | nil => intro _; exact .nil
          | cons hh _ ih =>
            intro hall
            simp only [List.all_cons, Bool.and_eq_true] at hall
            obtain ⟨cap, args, rfl, hr⟩ := hh
            exact .cons ⟨cap, args, rfl, hr.1, fun j v a h1 h2 => (hr.2 j v a h1 h2).trunc (AV.closeds_at hall.1 h2)⟩ (ih hall.2)
        exact key hf.defs hd
    · simp at hr

theorem FrOk.live {a : Act} {fr : Fr} (h : FrOk P H f σ nt a [] fr) (c : Code) : FrOk P H f σ nt a [] (liveF H f c fr) := by
  unfold liveF
  split
  · exact h
  · exact ⟨h.env.filter, h.defs⟩
theorem sim_roundEndL {n : Nat} {body : Code} {fr : Fr} {e : Fr × St} {a : Act} {σ0 : Gh} {st0 : St} {w0 : World} (h0 : WF P W bs σ0 st0 w0) (hl : σ0.Le σ) (h : WF P W bs σ st w) (hn : st0.length = n)
    (hf : FrOk P H f σ nt a [] fr) (hr : roundEndL H f body n fr st = some e) : ∃ σ', σ0.Le σ' ∧ WF P W bs σ' e.2 w ∧ FrOk P H f σ' nt a [] e.1 := by
  obtain ⟨q, hq, rfl⟩ := Option.map_eq_some_iff.1 hr
  obtain ⟨σ', h1, h2, h3⟩ := sim_roundEnd h0 hl h hn hf hq
  exact ⟨σ', h1, h2, h3.live body⟩

/-- A round of a loop, and what comes behind it. -/
theorem sim_round {again : AgainF} (hA : AgainOk P H W bs f nt again) (body : Code) {st : St} {q r : AX × Fr × St} {σ : Gh} {a : Act} {w : World} (hc : codeOk H f nt body = true) (h : WF P W bs σ st w)
    (hb : body.wp P (PostOk P H W bs f nt σ q) a w)
    (h2 : (match q.1 with | .normal => (roundEndL H f body st.length q.2.1 q.2.2).bind fun e => again (.round body) e.1 e.2 | _ => some q) = some r) (hg : GlobOk P H σ) (b : Frame) (k : List Item) (cs : List Frame) :
    ∃ e a' w', PostOk P H W bs f nt σ r e a' w' ∧ Arrives P (lone (b.at a (.code body :: .inLoop body :: k)) cs w) b k cs e a' w' := by
  obtain ⟨e, a₁, w₁, hp, harr⟩ := hb b (.inLoop body :: k) cs
  obtain ⟨σ', p1, p2, p3, p4⟩ := hp
  obtain ⟨ax, fr', st'⟩ := q
  cases ax with
  | normal =>
    cases e <;> first | exact p4.elim | skip
    obtain ⟨ee, hee, h3⟩ := Option.bind_eq_some_iff.1 h2
    obtain ⟨σ'', k1, k2, k3⟩ := sim_roundEndL h p1 p2 rfl p3 hee
    have := hA (.round body) ee.1 ee.2 r hc h3 σ'' a₁ w₁ k2 (hg.mono k1) k3
    obtain ⟨e₂, a₂, w₂, hq₂, harr₂⟩ := this b k cs
    exact ⟨e₂, a₂, w₂, hq₂.up k1, .of_steps harr harr₂⟩
  | exit i => simp only [Option.some.injEq] at h2; subst h2; cases e <;> first | exact p4.elim | exact ⟨_, a₁, w₁, ⟨σ', p1, p2, p3, p4⟩, .pass (x := .inLoop body) rfl (fun _ _ => .inl (by simp)) harr⟩
  | goto i => simp only [Option.some.injEq] at h2; subst h2; cases e <;> first | exact p4.elim | exact ⟨_, a₁, w₁, ⟨σ', p1, p2, p3, p4⟩, .pass (x := .inLoop body) rfl (fun _ _ => .inl (by simp)) harr⟩
  | ret => simp only [Option.some.injEq] at h2; subst h2; cases e <;> first | exact p4.elim | exact ⟨_, a₁, w₁, ⟨σ', p1, p2, p3, p4⟩, .pass (x := .inLoop body) rfl (fun _ _ => .inl (by simp)) harr⟩
  | panic v => simp only [Option.some.injEq] at h2; subst h2; cases e <;> first | exact p4.elim | exact ⟨_, a₁, w₁, ⟨σ', p1, p2, p3, p4⟩, .pass (x := .inLoop body) rfl (fun _ _ => .inl (by simp)) harr⟩

/-- Code in a scope, and what comes behind it. -/
theorem sim_inScope {again : AgainF} (hA : AgainOk P H W bs f nt again) (body c : Code) {q r : AX × Fr × St} {σ : Gh} {a : Act} {w : World} (hc : codeOk H f nt body = true)
    (hb : c.wp P (PostOk P H W bs f nt σ q) a w)
    (h2 : (match q.1 with | .goto l => (match findLabel body l with | some rest => again (.resume body rest) q.2.1 q.2.2 | none => some q) | _ => some q) = some r) (hg : GlobOk P H σ) (b : Frame) (k : List Item) (cs : List Frame) :
    ∃ e a' w', PostOk P H W bs f nt σ r e a' w' ∧ Arrives P (lone (b.at a (.code c :: .inScope body :: k)) cs w) b k cs e a' w' := by
  obtain ⟨e, a₁, w₁, hp, harr⟩ := hb b (.inScope body :: k) cs
  obtain ⟨σ', p1, p2, p3, p4⟩ := hp
  obtain ⟨ax, fr', st'⟩ := q
  cases ax with
  | normal => simp only [Option.some.injEq] at h2; subst h2; cases e <;> first | exact p4.elim | exact ⟨.normal, a₁, w₁, ⟨σ', p1, p2, p3, p4⟩, Steps.trans harr (.one step_inScope)⟩
  | exit i =>
    simp only [Option.some.injEq] at h2; subst h2
    cases e <;> first | exact p4.elim | skip
    exact ⟨_, a₁, w₁, ⟨σ', p1, p2, p3, p4⟩, fun k' hk => harr k' (by simp [exitTo, hk])⟩
  | goto l =>
    cases e <;> first | exact p4.elim | skip
    rename_i l'
    have hll : l' = l := p4
    subst hll
    simp only at h2
    split at h2
    · rename_i rest hf
      have := hA (.resume body rest) fr' st' r (by simp only [taskOk, Bool.and_eq_true]; exact ⟨hc, codeOk_label hc hf⟩) h2 σ' a₁ w₁ p2 (hg.mono p1) p3
      obtain ⟨e₂, a₂, w₂, hq₂, harr₂⟩ := this b k cs
      exact ⟨e₂, a₂, w₂, hq₂.up p1, .of_steps (harr _ (by simp [gotoIn, hf])) harr₂⟩
    · rename_i hf
      simp only [Option.some.injEq] at h2; subst h2
      exact ⟨.goto l', a₁, w₁, ⟨σ', p1, p2, p3, rfl⟩, fun k' hk => harr k' (by simp [gotoIn, hf, hk])⟩
  | ret => simp only [Option.some.injEq] at h2; subst h2; cases e <;> first | exact p4.elim | exact ⟨_, a₁, w₁, ⟨σ', p1, p2, p3, p4⟩, harr⟩
  | panic v => simp only [Option.some.injEq] at h2; subst h2; cases e <;> first | exact p4.elim | exact ⟨_, a₁, w₁, ⟨σ', p1, p2, p3, p4⟩, harr⟩

theorem sim_exec {callF : CallF} {again : AgainF} (hR : RegionOk P H W bs f nt base callF) (hA : AgainOk P H W bs f nt again) :
    ∀ (c : Code) (fr : Fr) (st : St) (r : AX × Fr × St) (σ : Gh) (a : Act) (w : World), codeOk H f nt c = true → execA P H callF again f base c fr st = some r → WF P W bs σ st w → GlobOk P H σ → FrOk P H f σ nt a [] fr →
      c.wp P (PostOk P H W bs f nt σ r) a w
  | .skip, fr, st, r, σ, a, w, hc, he, h, hg, hf => by
    simp only [execA, Option.some.injEq] at he
    subst he
    exact wp_skip ⟨σ, .refl _, h, hf, trivial⟩
  | .label l, fr, st, r, σ, a, w, hc, he, h, hg, hf => by
    simp only [execA, Option.some.injEq] at he
    subst he
    exact wp_label ⟨σ, .refl _, h, hf, trivial⟩
  | .region id ops draw, fr, st, r, σ, a, w, hc, he, h, hg, hf => hR id ops draw fr st r hc he σ a w h hg hf
  | .seq x y, fr, st, r, σ, a, w, hc, he, h, hg, hf => by
    simp only [codeOk, Bool.and_eq_true] at hc
    simp only [execA] at he
    obtain ⟨q, hq, h2⟩ := Option.bind_eq_some_iff.1 he
    refine wp_seq (wp_mono (sim_exec hR hA x fr st q σ a w hc.1 hq h hg hf) fun e a' w' hp => ?_)
    obtain ⟨σ', p1, p2, p3, p4⟩ := hp
    obtain ⟨ax, fr', st'⟩ := q
    cases ax with
    | normal =>
      cases e <;> first | exact p4.elim | skip
      exact wp_mono (sim_exec hR hA y _ st' r σ' a' w' hc.2 h2 p2 (hg.mono p1) (p3.live y)) fun e a w hh => hh.up p1
    | exit i => simp only [Option.some.injEq] at h2; subst h2; cases e <;> first | exact p4.elim | exact ⟨σ', p1, p2, p3, p4⟩
    | goto i => simp only [Option.some.injEq] at h2; subst h2; cases e <;> first | exact p4.elim | exact ⟨σ', p1, p2, p3, p4⟩
    | ret => simp only [Option.some.injEq] at h2; subst h2; cases e <;> first | exact p4.elim | exact ⟨σ', p1, p2, p3, p4⟩
    | panic v => simp only [Option.some.injEq] at h2; subst h2; cases e <;> first | exact p4.elim | exact ⟨σ', p1, p2, p3, p4⟩
  | .cond c x y, fr, st, r, σ, a, w, hc, he, h, hg, hf => by
    simp only [codeOk, Bool.and_eq_true] at hc
    simp only [execA] at he
    obtain ⟨v, hv, h2⟩ := Option.bind_eq_some_iff.1 he
    have hr := hf.eval hg c v hv
    split at h2
    · rename_i t
      generalize hx : a.eval c = xv at hr
      cases hr
      refine wp_cond_split hx (fun ht => ?_) (fun ht => ?_)
      · subst ht; exact sim_exec hR hA x fr st r σ a w hc.1 h2 h hg hf
      · subst ht; exact sim_exec hR hA y fr st r σ a w hc.2 h2 h hg hf
    · simp at h2
  | .block id body, fr, st, r, σ, a, w, hc, he, h, hg, hf => by
    simp only [execA] at he
    obtain ⟨q, hq, h2⟩ := Option.map_eq_some_iff.1 he
    refine wp_block (wp_mono (sim_exec hR hA body fr st q σ a w hc hq h hg hf) fun e a' w' hp => ?_)
    obtain ⟨σ', p1, p2, p3, p4⟩ := hp
    obtain ⟨ax, fr', st'⟩ := q
    cases ax with
    | normal => subst h2; cases e <;> first | exact p4.elim | exact ⟨σ', p1, p2, p3, p4⟩
    | exit i =>
      cases e <;> first | exact p4.elim | skip
      rename_i i'
      have hii : i' = i := p4
      subst hii
      simp only [Exit.inBlock]
      simp only at h2
      split
      · rename_i hid
        rw [if_pos hid] at h2
        subst h2
        exact ⟨σ', p1, p2, p3, trivial⟩
      · rename_i hid
        rw [if_neg hid] at h2
        subst h2
        exact ⟨σ', p1, p2, p3, rfl⟩
    | goto i => subst h2; cases e <;> first | exact p4.elim | exact ⟨σ', p1, p2, p3, p4⟩
    | ret => subst h2; cases e <;> first | exact p4.elim | exact ⟨σ', p1, p2, p3, p4⟩
    | panic v => subst h2; cases e <;> first | exact p4.elim | exact ⟨σ', p1, p2, p3, p4⟩
  | .loop body, fr, st, r, σ, a, w, hc, he, h, hg, hf => by
    simp only [execA] at he
    obtain ⟨q, hq, h2⟩ := Option.bind_eq_some_iff.1 he
    have hb := sim_exec hR hA body fr st q σ a w hc hq h hg hf
    intro b k cs
    obtain ⟨e, a', w', hq', harr⟩ := sim_round hA body hc h hb h2 hg b k cs
    exact ⟨e, a', w', hq', .of_steps (.one step_loop) harr⟩
  | .scope body, fr, st, r, σ, a, w, hc, he, h, hg, hf => by
    simp only [execA] at he
    obtain ⟨q, hq, h2⟩ := Option.bind_eq_some_iff.1 he
    have hb := sim_exec hR hA body fr st q σ a w hc hq h hg hf
    intro b k cs
    obtain ⟨e, a', w', hq', harr⟩ := sim_inScope hA body body hc hb h2 hg b k cs
    exact ⟨e, a', w', hq', .of_steps (.one step_scope) harr⟩
  | .exit id, fr, st, r, σ, a, w, hc, he, h, hg, hf => by
    simp only [execA, Option.some.injEq] at he
    subst he
    exact wp_exit ⟨σ, .refl _, h, hf, rfl⟩
  | .goto l, fr, st, r, σ, a, w, hc, he, h, hg, hf => by
    simp only [execA, Option.some.injEq] at he
    subst he
    exact wp_goto ⟨σ, .refl _, h, hf, rfl⟩
  | .ret, fr, st, r, σ, a, w, hc, he, h, hg, hf => by
    simp only [execA, Option.some.injEq] at he
    subst he
    exact wp_ret ⟨σ, .refl _, h, hf, trivial⟩
  | .rangeFunc .., fr, st, r, σ, a, w, hc, he, h, hg, hf => by simp [execA] at he
  | .refuse _, fr, st, r, σ, a, w, hc, he, h, hg, hf => by simp [execA] at he

theorem sim_task {callF : CallF} {again : AgainF} (hR : RegionOk P H W bs f nt base callF) (hA : AgainOk P H W bs f nt again) : AgainOk P H W bs f nt (taskA P H callF again f base) := by
  intro t fr st r ht he σ a w h hg hf
  cases t with
  | code c => exact sim_exec hR hA c fr st r σ a w ht he h hg hf
  | round body =>
    simp only [taskA, execA] at he
    obtain ⟨q, hq, h2⟩ := Option.bind_eq_some_iff.1 he
    have hb := sim_exec hR hA body fr st q σ a w ht hq h hg hf
    intro b k cs
    obtain ⟨e, a', w', hq', harr⟩ := sim_round hA body ht h hb h2 hg b k cs
    exact ⟨e, a', w', hq', .of_steps (.one step_inLoop) harr⟩
  | resume body rest =>
    simp only [taskOk, Bool.and_eq_true] at ht
    simp only [taskA] at he
    obtain ⟨q, hq, h2⟩ := Option.bind_eq_some_iff.1 he
    have hb := sim_exec hR hA rest fr st q σ a w ht.2 hq h hg hf
    intro b k cs
    exact sim_inScope hA body rest ht.1 hb h2 hg b k cs
end
end Go.Abs

/- The interpreter by value: what a call hands out; deferred calls. -/
namespace Go.Abs
open Go Go.RowKit
set_option linter.unusedVariables false
set_option linter.unusedSimpArgs false

section
variable {P : Program} {H : Hints} {W : World} {bs : Nat} {σ σ' : Gh} {st : St} {w : World} {f : FuncId} {nt base : Nat}

theorem run_resultList {tmps : Array Value} {env : Env} (h : WF P W bs σ st w) (he : EnvOk P H f σ nt tmps [] env) : ∀ {rs : List ResultVar} {as : List AV}, resultsA P env st rs = some as →
    ∃ vs : List Value, (rs.mapM (fun (x : ResultVar) => (match x with
      | .tmp t => pure (tmps.getD t undef)
      | .cell a t => do loadVar t (← asAddr (tmps.getD a undef)) : Sem Value))).run P w = .ok vs w ∧ Reps P σ vs as
  | [], as, hr => by
    simp only [resultsA, Option.some.injEq] at hr
    subst hr
    exact ⟨[], rfl, .nil⟩
  | .tmp t :: rs, as, hr => by
    simp only [resultsA] at hr
    obtain ⟨v, hv, h2⟩ := Option.bind_eq_some_iff.1 hr
    obtain ⟨as', has, rfl⟩ := Option.map_eq_some_iff.1 h2
    obtain ⟨vs, h3, h4⟩ := run_resultList h he has
    refine ⟨tmps.getD t undef :: vs, ?_, .cons (he.val t v (by simpa [look, Env.get] using hv)) h4⟩
    rw [List.mapM_cons]
    simp only [Sem.run_bind, Sem.run_pure, Result.andThen_ok, h3]
  | .cell a t :: rs, as, hr => by
    simp only [resultsA] at hr
    obtain ⟨p, hp, h2⟩ := Option.bind_eq_some_iff.1 hr
    obtain ⟨v, hv, h3⟩ := Option.bind_eq_some_iff.1 h2
    obtain ⟨as', has, rfl⟩ := Option.map_eq_some_iff.1 h3
    obtain ⟨vs, h4, h5⟩ := run_resultList h he has
    obtain ⟨u, h6, h7⟩ := sim_load h (he.val a p (by simpa [look, Env.get] using hp)) hv
    have h8 : (do loadVar t (← asAddr (tmps.getD a undef)) : Sem Value).run P w = .ok u w := by
      generalize tmps.getD a undef = x at h6
      simp only [Instr.loadAt, Sem.run_bind] at h6
      cases x with
      | pointer q =>
        cases q with
        | none => simp [Instr.sureAddr] at h6
        | some q => simpa [Instr.sureAddr, asAddr] using h6
      | _ => simp [Instr.sureAddr] at h6
    refine ⟨u :: vs, ?_, .cons h7 h5⟩
    rw [List.mapM_cons]
    simp only [Sem.run_bind, Sem.run_pure, Result.andThen_ok, h4]
    simp only [Sem.run_bind] at h8
    rw [h8]
    simp only [Result.andThen_ok, h4]

def outV (as : List AV) : AV := match as with | [v] => v | vs => .tup vs

theorem sim_results {fn : Func} {tmps : Array Value} {env : Env} {as : List AV} (h : WF P W bs σ st w) (he : EnvOk P H f σ nt tmps [] env) (hr : resultsA P env st fn.results.toList = some as) :
    ∃ v, (results fn tmps).run P w = .ok v w ∧ Rep P σ v (outV as) := by
  obtain ⟨vs, h1, h2⟩ := run_resultList h he hr
  have hm : (fn.results.mapM (fun (x : ResultVar) => (match x with
      | .tmp t => pure (tmps.getD t undef)
      | .cell a t => do loadVar t (← asAddr (tmps.getD a undef)) : Sem Value))).run P w = .ok vs.toArray w := by
    rw [show fn.results = fn.results.toList.toArray from rfl, List.mapM_toArray, Sem.run_map, h1]
    rfl
  refine ⟨if h : vs.toArray.size = 1 then vs.toArray[0] else .tuple vs.toArray, ?_, ?_⟩
  · unfold results
    rw [Sem.run_bind]
    exact Eq.trans (congrArg (fun r => Result.andThen r (fun (a : Array Value) w' => (pure (if h : a.size = 1 then a[0] else Value.tuple a) : Sem Value).run P w')) hm) rfl
  · match as, h2 with
    | [a], h2 =>
      obtain ⟨v, rfl, h3⟩ := h2.one
      exact h3
    | [], h2 =>
      have : vs = [] := List.length_eq_zero_iff.1 h2.1
      subst this
      exact .tup #[] [] rfl (by simp)
    | a :: b :: r, h2 =>
      have hl : vs.length = r.length + 2 := by rw [h2.1]; rfl
      have hne : ¬ vs.toArray.size = 1 := by simp; omega
      rw [dif_neg hne]
      exact .tup _ _ (by simpa using h2.1) (fun j v a h1' h2' => h2.2 j v a (by simpa using h1') h2')

/-! ### What is handed out -/
def OutRep (P : Program) (σ : Gh) : Ending → AOut → Prop
  | .returned v, .ret a => Rep P σ v a
  | .panicked ch, .pan a => ∃ v, ch = [{ v := v, recovered := false }] ∧ Rep P σ v a
  | _, _ => False
def EndR (P : Program) (W : World) (bs : Nat) (σ : Gh) (o : AOut) (st' : St) (e : Ending) (w' : World) : Prop := ∃ σ', σ.Le σ' ∧ WF P W bs σ' st' w' ∧ OutRep P σ' e o
theorem EndR.ok {o : AOut} {e : Ending} (h : EndR P W bs σ o st e w) : EndOk P W bs σ o st e w := by
  obtain ⟨σ', h1, h2, h3⟩ := h
  cases e with
  | returned v => cases o with
    | ret a => exact ⟨a, σ', rfl, h1, h2, h3⟩
    | pan a => exact h3.elim
  | panicked ch => cases o with
    | ret a => exact h3.elim
    | pan a => obtain ⟨v, rfl, h4⟩ := h3; exact ⟨a, v, σ', rfl, rfl, h1, h2, h4⟩
  | outgrown => cases o <;> exact h3.elim

theorem Rep.stripN {n : Nat} {v : Value} {a : AV} (h : Rep P σ v a) : Rep P σ v (AV.stripN n a) := by
  unfold AV.stripN
  split
  · rename_i kd rows off len t ep
    split
    · exact h
    · exact h.strip
  · exact h
theorem Rep.stripR {n : Nat} {v : Value} {a : AV} (h : Rep P σ v a) : Rep P σ v (AV.stripR n a) := by
  unfold AV.stripR
  split
  · rename_i as
    cases h with
    | agg cs _ hs h1 hR =>
      refine .agg cs _ (by simpa using hs) h1 (fun j v a q1 q2 => ?_)
      rw [List.getElem?_map] at q2
      obtain ⟨b, hb, rfl⟩ := Option.map_eq_some_iff.1 q2
      exact (hR j v b q1 hb).stripN
  · rename_i as
    cases h with
    | tup cs _ hs hR =>
      refine .tup cs _ (by simpa using hs) (fun j v a q1 q2 => ?_)
      rw [List.getElem?_map] at q2
      obtain ⟨b, hb, rfl⟩ := Option.map_eq_some_iff.1 q2
      have hr := hR j v b q1 hb
      split
      · rename_i bs'
        cases hr with
        | agg cs' _ hs' h1' hR' =>
          refine .agg cs' _ (by simpa using hs') h1' (fun j v a q1 q2 => ?_)
          rw [List.getElem?_map] at q2
          obtain ⟨b, hb, rfl⟩ := Option.map_eq_some_iff.1 q2
          exact (hR' j v b q1 hb).stripN
      · exact hr.stripN
  · exact h.stripN

theorem sim_out {n : Nat} {σ0 : Gh} {st0 : St} {w0 : World} {o : AOut} {e : Ending} {r : AOut × St} (h0 : WF P W bs σ0 st0 w0) (hn : st0.length = n) (hl : σ0.Le σ) (h : WF P W bs σ st w) (ho : OutRep P σ e o)
    (hr : outA H f n o st = some r) : EndR P W bs σ0 r.1 r.2 e w := by
  unfold outA at hr
  split at hr
  · cases hr; exact ⟨σ, hl, h, ho⟩
  · have hl' := hl.trunc (n := n) (fun o e ho => h0.idR o e (by omega)) (fun o ho => h0.idB o (by omega)) (fun o e k ho => h0.idL o e k (by omega))
    split at hr
    · rename_i v
      simp only at hr
      split at hr
      · rename_i hc
        simp only [Bool.and_eq_true] at hc
        cases hr
        refine ⟨_, hl', h.trunc hc.2, ?_⟩
        cases e with
        | returned u => exact (Rep.stripR ho).trunc hc.1
        | _ => exact ho.elim
      · simp at hr
    · rename_i v
      split at hr
      · rename_i hc
        simp only [Bool.and_eq_true] at hc
        cases hr
        refine ⟨_, hl', h.trunc hc.2, ?_⟩
        cases e with
        | panicked ch =>
          obtain ⟨u, rfl, h4⟩ := ho
          exact ⟨u, rfl, h4.trunc hc.1⟩
        | _ => exact ho.elim
      · simp at hr

/-! ### Deferred calls -/
def ModeOk (P : Program) (σ : Gh) : AMode → FrameMode → Prop
  | .ret, .returning => True
  | .pan a, .panicking ch => ∃ v, ch = [{ v := v, recovered := false }] ∧ Rep P σ v a
  | .recd a, .panicking ch => ∃ v, ch = [{ v := v, recovered := true }] ∧ Rep P σ v a
  | _, _ => False
theorem ModeOk.mono {m : AMode} {u : FrameMode} (h : ModeOk P σ m u) (hl : σ.Le σ') : ModeOk P σ' m u := by
  cases m <;> cases u <;> first | exact h.elim | trivial | (obtain ⟨v, rfl, h2⟩ := h; exact ⟨v, rfl, h2.mono hl⟩)

abbrev CallDF := FuncId → List AV → St → AMode → Option (AOut × St × AMode)
def CallDOk (P : Program) (H : Hints) (W : World) (bs : Nat) (callD : CallDF) : Prop :=
  ∀ g as st m r, callD g as st m = some r → Has P g ∧ ∀ σ w vs u, WF P W bs σ st w → GlobOk P H σ → Reps P σ vs as → ModeOk P σ m u →
    CallsD P g vs.toArray u w fun e u' w' => ∃ σ', σ.Le σ' ∧ WF P W bs σ' r.2.1 w' ∧ OutRep P σ' e r.1 ∧ ModeOk P σ' r.2.2 u'

theorem leaves_up {fn : Func} {tmps : Array Value} {R R' : Ending → World → Prop} (h : ∀ e w, R e w → R' e w) : ∀ {ds : List Deferred} {u : FrameMode} {w : World}, Leaves P fn tmps R ds u w → Leaves P fn tmps R' ds u w
  | [], .returning, w, hl => let ⟨v, h1, h2⟩ := hl; ⟨v, h1, h _ _ h2⟩
  | [], .panicking ch, w, hl => h _ _ hl
  | [], .run, w, hl => hl.elim
  | d :: ds, u, w, hl => by
    obtain ⟨h1, fv, cap, f, args, h2, h3, h4⟩ := hl
    refine ⟨h1, fv, cap, f, args, h2, h3, h4.mono fun e u' w' he => ?_⟩
    cases e with
    | returned v => exact leaves_up h he
    | panicked ch => exact leaves_up h he
    | outgrown => exact h _ _ he

theorem sim_leave {callD : CallDF} {fn : Func} {tmps : Array Value} {env : Env} (hD : CallDOk P H W bs callD) : ∀ (das : List (FuncId × List AV)) (ds : List Deferred) (m : AMode) (u : FrameMode) (st : St) (r : AOut × St) (σ : Gh) (w : World),
    leaveA P callD fn env das m st = some r → DefsOk P σ ds das → ModeOk P σ m u → WF P W bs σ st w → GlobOk P H σ → EnvOk P H f σ nt tmps [] env →
    Leaves P fn tmps (EndR P W bs σ r.1 r.2) ds u w
  | [], ds, m, u, st, r, σ, w, hl, hds, hm, h, hg, he => by
    cases hds
    cases m with
    | ret =>
      cases u <;> first | exact hm.elim | skip
      simp only [leaveA] at hl
      obtain ⟨vs, hvs, rfl⟩ := Option.map_eq_some_iff.1 hl
      obtain ⟨v, h1, h2⟩ := sim_results h he hvs
      exact ⟨v, h1, σ, .refl _, h, h2⟩
    | pan a =>
      cases u <;> first | exact hm.elim | skip
      simp only [leaveA, Option.some.injEq] at hl
      subst hl
      exact ⟨σ, .refl _, h, hm⟩
    | recd a => simp [leaveA] at hl
  | (g, as) :: das, ds, m, u, st, r, σ, w, hl, hds, hm, h, hg, he => by
    cases hds with
    | cons hd hds =>
    obtain ⟨cap, args, rfl, hr⟩ := hd
    simp only [leaveA] at hl
    obtain ⟨q, hq, h2⟩ := Option.bind_eq_some_iff.1 hl
    obtain ⟨hh, hcall⟩ := hD g as st m q hq
    have hu : u ≠ .run := fun e => by subst e; cases m <;> exact hm.elim
    refine leaves_cons hu (f := g) (args := (args.toList ++ cap.toList).toArray) ?_ ((hcall σ w _ u h hg hr hm).mono fun e u' w' he' => ?_)
    · have e2 : (args.toList ++ cap.toList).toArray = args ++ cap := by apply Array.ext'; simp
      rw [e2]
      exact run_callFunc hh _
    · obtain ⟨σ', k1, k2, k3, k4⟩ := he'
      obtain ⟨o, st', m'⟩ := q
      cases o with
      | ret x =>
        cases e <;> first | exact k3.elim | skip
        simp only at h2
        have hset : ModeOk P σ' (settleA m') (settle u') := by
          cases m' with
          | ret => cases u' <;> first | exact k4.elim | trivial
          | pan a => cases u' <;> first | exact k4.elim | (obtain ⟨v, rfl, h3⟩ := k4; exact ⟨v, rfl, h3⟩)
          | recd a => cases u' <;> first | exact k4.elim | (obtain ⟨v, rfl, h3⟩ := k4; trivial)
        have := sim_leave hD das _ _ _ _ r σ' w' h2 (hds.mono k1) hset k2 (hg.mono k1) (he.mono k1)
        exact leaves_up (fun e w hh => let ⟨τ, t1, t2⟩ := hh; ⟨τ, k1.trans t1, t2⟩) this
      | pan x =>
        cases e <;> first | exact k3.elim | skip
        obtain ⟨v, rfl, h3⟩ := k3
        cases m' with
        | ret =>
          cases u' <;> first | exact k4.elim | skip
          simp only at h2
          have := sim_leave hD das _ (.pan x) (.panicking [{ v := v, recovered := false }]) _ r σ' w' h2 (hds.mono k1) ⟨v, rfl, h3⟩ k2 (hg.mono k1) (he.mono k1)
          exact leaves_up (fun e w hh => let ⟨τ, t1, t2⟩ := hh; ⟨τ, k1.trans t1, t2⟩) this
        | _ => simp at h2
end
end Go.Abs

/- The interpreter by value: calls. -/
namespace Go.Abs
open Go Go.RowKit
set_option linter.unusedVariables false
set_option linter.unusedSimpArgs false

section
variable {P : Program} {H : Hints} {W : World} {bs : Nat} {σ σ' : Gh} {st : St} {w : World} {f : FuncId} {nt base : Nat}

theorem entry_srt (as : List AV) (k : Nat) : ((as.zipIdx k).map fun p => (p.2, p.1)).Pairwise fun p q => p.1 < q.1 := by
  induction as generalizing k with
  | nil => simp
  | cons a as ih =>
    rw [List.zipIdx_cons, List.map_cons]
    refine List.pairwise_cons.2 ⟨fun q hq => ?_, ih (k + 1)⟩
    obtain ⟨p, hp, rfl⟩ := List.mem_map.1 hq
    have := List.mem_zipIdx hp
    show k < p.2
    omega
theorem entry_get (as : List AV) (k : Nat) {t : Nat} {v : AV} (h : Env.get ((as.zipIdx k).map fun p => (p.2, p.1)) t = some v) : k ≤ t ∧ as[t - k]? = some v := by
  obtain ⟨p, hp, hq⟩ := List.mem_map.1 (Env.get_mem h)
  have hm := List.mem_zipIdx hp
  cases hq
  refine ⟨hm.1, ?_⟩
  rw [List.getElem?_eq_getElem (by omega)]
  rw [hm.2.2]

theorem entry_ok {as : List AV} {vs : List Value} {n : Nat} (hr : Reps P σ vs as) (hk : ∀ i, i < as.length → (H.keep f).contains i = true) :
    EnvOk P H f σ n (vs.toArray ++ Array.replicate (n - vs.toArray.size) undef) [] (entry as) := by
  have key : ∀ t v, Env.get (entry as) t = some v → as[t]? = some v := fun t v h => by
    have := (entry_get as 0 h).2
    simpa using this
  refine ⟨by simp; omega, fun t v hv => ?_, fun t v hv => by simp [Env.get] at hv, fun t v hv => ?_, entry_srt as 0⟩
  · have h1 := key t v (by simpa [look, Env.get] using hv)
    have hlt : t < as.length := (List.getElem?_eq_some_iff.1 h1).1
    have hlv : t < vs.length := by rw [hr.1]; exact hlt
    have h2 : vs[t]? = some vs[t] := List.getElem?_eq_getElem hlv
    have e : (vs.toArray ++ Array.replicate (n - vs.toArray.size) undef).getD t undef = vs[t] := by
      rw [Array.getD_eq_getD_getElem?, Array.getElem?_append_left (by simpa using hlv)]
      simp [hlv]
    rw [e]
    exact hr.2 t _ v h2 h1
  · exact hk t (List.getElem?_eq_some_iff.1 (key t v hv)).1

/-- What is asked of a program: each function's slots are its own, its parameters are kept. -/
def ProgOk (P : Program) (H : Hints) : Prop :=
  ∀ g fn c, P.funcs[g]? = some fn → fn.body = some c → (fn.name == "runtime.NumGoroutine") = false ∧ codeOk H g fn.ntmps c = true ∧ ∀ i, i < fn.params.size + fn.nfree → (H.keep g).contains i = true

def PrimOk (P : Program) (H : Hints) (W : World) (bs : Nat) : Prop :=
  ∀ g F, H.prim g = some F → ∀ as st r, F as st = some r → Has P g ∧ ∀ σ w vs, WF P W bs σ st w → GlobOk P H σ → Reps P σ vs as → Calls P g vs.toArray w (EndOk P W bs σ r.1 r.2)

theorem has_of {g : FuncId} {fn : Func} {c : Code} (hP : ProgOk P H) (hf : P.funcs[g]? = some fn) (hb : fn.body = some c) : Has P g := ⟨fn, hf, by rw [hb]; rfl, (hP g fn c hf hb).1⟩

theorem sim_call {callF : CallF} {again : FuncId → Nat → AgainF} (hP : ProgOk P H) (hM : PrimOk P H W bs) (hR : ∀ f nt base, RegionOk P H W bs f nt base callF) (hA : ∀ f nt base, AgainOk P H W bs f nt (again f base))
    (hD : CallDOk P H W bs (callDA P H callF again)) : CallOk P H W bs (callA P H callF again) := by
  intro g as st r hc
  unfold callA at hc
  split at hc
  · rename_i F hF
    exact hM g F hF as st r hc
  · rename_i hnp
    obtain ⟨fn, hfn, h2⟩ := Option.bind_eq_some_iff.1 hc
    obtain ⟨c, hb, h3⟩ := Option.bind_eq_some_iff.1 h2
    clear hc h2
    split at h3
    · rename_i hlen
      obtain ⟨q, hq, h4⟩ := Option.bind_eq_some_iff.1 h3
      obtain ⟨o, ho, h5⟩ := Option.bind_eq_some_iff.1 h4
      clear h3 h4
      obtain ⟨_, hok, hkeep⟩ := hP g fn c hfn hb
      refine ⟨has_of hP hfn hb, fun σ w vs h hg hr => ?_⟩
      refine calls_of_wp_defers hfn hb ?_
      have hfr : FrOk P H g σ fn.ntmps { tmps := vs.toArray ++ Array.replicate (fn.ntmps - vs.toArray.size) undef, defers := [] } [] ⟨entry as, []⟩ :=
        ⟨entry_ok hr (fun i hi => hkeep i (by omega)), .nil⟩
      refine wp_mono (sim_exec (hR g fn.ntmps st.length) (hA g fn.ntmps st.length) c _ _ q σ _ w hok hq (h.homes _) hg hfr) fun e a w' hp => ?_
      obtain ⟨σ', p1, p2, p3, p4⟩ := hp
      obtain ⟨ax, fr', st'⟩ := q
      have fin : ∀ e w, EndR P W bs σ' o.1 o.2 e w → EndOk P W bs σ r.1 r.2 e w := fun e w hh => by
        obtain ⟨σ'', t1, t2, t3⟩ := hh
        exact (sim_out h rfl (p1.trans t1) t2 t3 h5).ok
      cases ax with
      | normal =>
        cases e <;> first | exact p4.elim | skip
        exact leaves_up fin (sim_leave hD _ _ .ret .returning _ _ σ' w' ho p3.defs trivial p2 (hg.mono p1) p3.env)
      | ret =>
        cases e <;> first | exact p4.elim | skip
        exact leaves_up fin (sim_leave hD _ _ .ret .returning _ _ σ' w' ho p3.defs trivial p2 (hg.mono p1) p3.env)
      | panic v =>
        cases e <;> first | exact p4.elim | skip
        exact leaves_up fin (sim_leave hD _ _ (.pan v) (.panicking _) _ _ σ' w' ho p3.defs p4 p2 (hg.mono p1) p3.env)
      | exit i => simp at ho
      | goto i => simp at ho
    · simp at h3
end
end Go.Abs

/- The interpreter by value: deferred calls, and those that recover. -/
namespace Go.Abs
open Go Go.RowKit
set_option linter.unusedVariables false
set_option linter.unusedSimpArgs false

section
variable {P : Program} {H : Hints} {W : World} {bs : Nat} {σ σ' : Gh} {st : St} {w : World} {f : FuncId} {nt base : Nat}

/-- As PostOk; beside it what became of the panic under way. -/
def PostS (P : Program) (H : Hints) (W : World) (bs : Nat) (f : FuncId) (nt : Nat) (c₀ : Frame) (cs₀ : List Frame) (τ0 σ : Gh) (r : AX × Fr × St × AMode) (e : Exit) (a : Act) (cs : List Frame) (w : World) : Prop :=
  ∃ σ', σ.Le σ' ∧ WF P W bs σ' r.2.2.1 w ∧ FrOk P H f σ' nt a [] r.2.1 ∧ ExitOk P σ' e r.1 ∧ ∃ u, cs = { c₀ with mode := u } :: cs₀ ∧ ModeOk P τ0 r.2.2.2 u
theorem PostS.up {τ0 : Gh} {c₀ : Frame} {cs₀ : List Frame} {r : AX × Fr × St × AMode} {e : Exit} {a : Act} {cs : List Frame} {w : World} (hl : σ.Le σ') (h : PostS P H W bs f nt c₀ cs₀ τ0 σ' r e a cs w) : PostS P H W bs f nt c₀ cs₀ τ0 σ r e a cs w := by
  obtain ⟨τ, h1, h2⟩ := h
  exact ⟨τ, hl.trans h1, h2⟩

theorem wpOpsS_mono {ops : Array Oper} {Q Q' : Exit → Act → List Frame → World → Prop} (hq : ∀ e a cs w, Q e a cs w → Q' e a cs w) : ∀ {l : List Nat} {a : Act} {cs : List Frame} {w : World}, wpOpsS P ops Q l a cs w → wpOpsS P ops Q' l a cs w
  | [], a, cs, w, h => hq _ _ _ _ h
  | i :: rest, a, cs, w, h => by
    simp only [wpOpsS] at h ⊢
    split
    · rename_i ho
      simp only [ho] at h
      exact wpOpsS_mono hq h
    · rename_i o ho
      simp only [ho] at h
      split
      · rename_i hw
        simp only [hw, if_true] at h
        split
        · rename_i w' hr
          simp only [hr] at h
          split
          · rename_i v cs' hrec
            simp only [hrec] at h
            exact wpOpsS_mono hq h
          · rename_i hrec
            simp only [hrec] at h
            exact wpOpsS_mono hq h
        · rename_i r hnot
          have h' : o.upon P a (fun a' w' => wpOpsS P ops Q rest a' cs w') (fun e a' w' => Q e a' cs w') ((execOp a.eval o).run P w) := by
            split at h
            · rename_i w' hr; exact absurd hr (hnot w')
            · exact h
          exact oper_mono (P := P) (o := o) (a := a) (w := w) (fun _ _ hk => wpOpsS_mono hq hk) (fun _ _ _ hk => hq _ _ _ _ hk) h'
      · rename_i hw
        simp only [hw] at h
        exact wpOpsS_mono hq h

theorem opsS_of_wp {ops : Array Oper} {Q : Exit → Act → List Frame → World → Prop} {i : Nat} {rest : List Nat} {o : Oper} {a : Act} {cs : List Frame} {w : World} (ho : ops[i]? = some o) (hw : Region.wanted o (yielded ops a.tmps) = true)
    (h : o.wp P a w (fun a' w' => wpOpsS P ops Q rest a' cs w') (fun e a' w' => Q e a' cs w')) : wpOpsS P ops Q (i :: rest) a cs w := by
  simp only [wpOpsS, ho, hw, if_true]
  unfold Oper.wp at h
  split
  · rename_i w' hr
    rw [hr] at h
    exact h.elim
  · exact h

theorem sim_opsS {τ0 : Gh} {callF : CallF} {ops : Array Oper} {c₀ : Frame} {cs₀ : List Frame} (hX : ExtOk P H) (hC : CallOk P H W bs callF) (hdst : ∀ (i : Nat) o d, ops[i]? = some o → o.dst = some d → d < nt) :
    ∀ (l : List Oper) (i : Nat) (loc : Env) (fr : Fr) (st : St) (m : AMode) (r : AX × Fr × St × AMode) (σ : Gh) (a : Act) (w : World) (u : FrameMode), ops.toList.drop i = l → opsS P H callF f base ops l loc fr st m = some r → WF P W bs σ st w → GlobOk P H σ → FrOk P H f σ nt a loc fr → ModeOk P τ0 m u → τ0.Le σ →
      wpOpsS P ops (PostS P H W bs f nt c₀ cs₀ τ0 σ r) (List.range' i l.length) a ({ c₀ with mode := u } :: cs₀) w
  | [], i, loc, fr, st, m, r, σ, a, w, u, hdrop, ho, h, hg, hf, hm, hτ => by
    simp only [opsS, Option.some.injEq] at ho
    subst ho
    exact ⟨σ, .refl _, h, hf.drop, trivial, u, rfl, hm⟩
  | o :: rest, i, loc, fr, st, m, r, σ, a, w, u, hdrop, ho, h, hg, hf, hm, hτ => by
    have hio : ops[i]? = some o := by
      have : (ops.toList.drop i)[0]? = some o := by rw [hdrop]; rfl
      rw [List.getElem?_drop] at this
      simpa using this
    have hrest : ops.toList.drop (i + 1) = rest := by
      rw [← List.drop_drop, hdrop]; rfl
    have hd := hdst i o
    simp only [opsS] at ho
    obtain ⟨b, hb, h2⟩ := Option.bind_eq_some_iff.1 ho
    have hwant := sim_want hf hb
    simp only [List.length_cons, List.range'_succ]
    cases b with
    | false =>
      simp only [Bool.false_eq_true, if_false] at h2
      simp only [wpOpsS, hio, hwant, Bool.false_eq_true, if_false]
      exact sim_opsS hX hC hdst rest (i + 1) _ _ _ m r σ _ w u hrest h2 h hg (hf.put (fun d hd' => hd d hio hd') undef_rep) hm hτ
    | true =>
      simp only [if_true] at h2
      split at h2
      · -- recover
        rename_i args tys va hop
        have hrun : (execOp a.eval o).run P w = .ok .recover w := by
          simp [execOp, hop, resolve, invoke, builtin]
        simp only [wpOpsS, hio, hwant, if_true, hrun]
        cases m with
        | pan v =>
          cases u <;> first | exact hm.elim | skip
          obtain ⟨v', rfl, hv⟩ := hm
          simp only [recoverD]
          exact sim_opsS hX hC hdst rest (i + 1) _ _ _ (.recd v) r σ _ w (.panicking [{ v := v', recovered := true }]) hrest h2 h hg (hf.put (fun d hd' => hd d hio hd') (hv.mono hτ)) ⟨v', rfl, hv⟩ hτ
        | ret =>
          cases u <;> first | exact hm.elim | skip
          simp only [recoverD]
          exact sim_opsS hX hC hdst rest (i + 1) _ _ _ .ret r σ _ w .returning hrest h2 h hg (hf.put (fun d hd' => hd d hio hd') .nili) trivial hτ
        | recd v =>
          cases u <;> first | exact hm.elim | skip
          obtain ⟨v', rfl, hv⟩ := hm
          simp only [recoverD]
          exact sim_opsS hX hC hdst rest (i + 1) _ _ _ (.recd v) r σ _ w (.panicking [{ v := v', recovered := true }]) hrest h2 h hg (hf.put (fun d hd' => hd d hio hd') .nili) ⟨v', rfl, hv⟩ hτ
      · obtain ⟨q, hq, h3⟩ := Option.bind_eq_some_iff.1 h2
        refine opsS_of_wp hio hwant ?_
        refine sim_step hX hC h hg hf hq (fun v x w' σ' e1 e2 e3 e4 => ?_) (fun w' σ' e1 e2 e3 => ?_) (fun g as d w' σ' e1 e2 e3 e4 => ?_) (fun v x w' σ' e1 e2 e3 e4 => ?_)
        · rw [e1] at h3
          obtain ⟨l, hl, h4⟩ := Option.bind_eq_some_iff.1 h3
          obtain ⟨σ'', k1, k2, k3⟩ := land_val e3 (hf.mono e2) (fun d hd' => hd d hio hd') e4 hl
          have := sim_opsS (c₀ := c₀) (cs₀ := cs₀) hX hC hdst rest (i + 1) l.1 l.2.1 l.2.2 m r σ'' _ w' u hrest h4 k2 (hg.mono (e2.trans k1)) k3 hm (hτ.trans (e2.trans k1))
          exact wpOpsS_mono (fun e a cs w hh => hh.up (e2.trans k1)) this
        · rw [e1] at h3
          obtain ⟨l, hl, h4⟩ := Option.bind_eq_some_iff.1 h3
          simp only [landA, Option.some.injEq] at hl
          subst hl
          have := sim_opsS (c₀ := c₀) (cs₀ := cs₀) hX hC hdst rest (i + 1) _ _ _ m r σ' _ w' u hrest h4 e3 (hg.mono e2) ((hf.mono e2).put (fun d hd' => hd d hio hd') undef_rep) hm (hτ.trans e2)
          exact wpOpsS_mono (fun e a cs w hh => hh.up e2) this
        · rw [e1] at h3
          obtain ⟨l, hl, h4⟩ := Option.bind_eq_some_iff.1 h3
          simp only [landA, Option.some.injEq] at hl
          subst hl
          have hf2 : FrOk P H f σ' nt { a with defers := d :: a.defers } loc { fr with defers := (g, as) :: fr.defers } := ⟨(hf.mono e2).env, .cons e4 (hf.mono e2).defs⟩
          have := sim_opsS (c₀ := c₀) (cs₀ := cs₀) hX hC hdst rest (i + 1) _ _ _ m r σ' _ w' u hrest h4 e3 (hg.mono e2) (hf2.put (fun d hd' => hd d hio hd') undef_rep) hm (hτ.trans e2)
          exact wpOpsS_mono (fun e a cs w hh => hh.up e2) this
        · rw [e1] at h3
          simp only [Option.some.injEq] at h3
          subst h3
          exact ⟨σ', e2, e3, (hf.mono e2).drop, ⟨v, rfl, e4⟩, u, rfl, hm⟩
end
end Go.Abs

/- The interpreter by value: deferred calls; all depths. -/
namespace Go.Abs
open Go Go.RowKit
set_option linter.unusedVariables false
set_option linter.unusedSimpArgs false

section
variable {P : Program} {H : Hints} {W : World} {bs : Nat} {σ σ' : Gh} {st : St} {w : World} {f : FuncId} {nt base : Nat}

theorem wpS_mono {c : Code} {Q Q' : Exit → Act → List Frame → World → Prop} {a : Act} {cs : List Frame} {w : World} (h : c.wpS P Q a cs w) (hq : ∀ e a cs w, Q e a cs w → Q' e a cs w) : c.wpS P Q' a cs w :=
  fun b k hb hr => let ⟨e, a', cs', w', q, r⟩ := h b k hb hr; ⟨e, a', cs', w', hq _ _ _ _ q, r⟩

theorem dst_ok {ops : Array Oper} {id : Nat} {d : Bool} (h : codeOk H f nt (.region id ops d) = true) : ∀ (i : Nat) o d, ops[i]? = some o → o.dst = some d → d < nt := fun i o d hi hd => by
  have := List.all_eq_true.1 (Bool.and_eq_true_iff.1 (show ((ops.toList.all fun o => match o.dst with | some d => decide (d < nt) | none => true) && _) = true from h)).1 o (List.mem_of_getElem? (by simpa using hi))
  rw [hd] at this
  simpa using this

theorem defs_nil {ds : List Deferred} (h : DefsOk P σ ds []) : ds = [] := by cases h; rfl

theorem post_still {c₀ : Frame} {cs₀ : List Frame} {τ0 : Gh} {m : AMode} {u : FrameMode} {r : AX × Fr × St} {e : Exit} {a : Act} {w : World} (hm : ModeOk P τ0 m u) (h : PostOk P H W bs f nt σ r e a w) :
    PostS P H W bs f nt c₀ cs₀ τ0 σ (r.1, r.2.1, r.2.2, m) e a ({ c₀ with mode := u } :: cs₀) w := by
  obtain ⟨σ', h1, h2, h3, h4⟩ := h
  exact ⟨σ', h1, h2, h3, h4, u, rfl, hm⟩

theorem sim_execS {callF : CallF} {again : AgainF} {c₀ : Frame} {cs₀ : List Frame} {τ0 : Gh} (hX : ExtOk P H) (hC : CallOk P H W bs callF) (hR : RegionOk P H W bs f nt base callF) (hA : AgainOk P H W bs f nt again) :
    ∀ (c : Code) (fr : Fr) (st : St) (m : AMode) (r : AX × Fr × St × AMode) (σ : Gh) (a : Act) (w : World) (u : FrameMode), codeOk H f nt c = true → execS P H callF again f base c fr st m = some r → WF P W bs σ st w → GlobOk P H σ → FrOk P H f σ nt a [] fr → ModeOk P τ0 m u → τ0.Le σ →
      c.wpS P (PostS P H W bs f nt c₀ cs₀ τ0 σ r) a ({ c₀ with mode := u } :: cs₀) w := by
  intro c
  have plain : ∀ (c : Code) (fr : Fr) (st : St) (m : AMode) (r : AX × Fr × St × AMode) (σ : Gh) (a : Act) (w : World) (u : FrameMode), codeOk H f nt c = true → (execA P H callF again f base c fr st).map (fun r => (r.1, r.2.1, r.2.2, m)) = some r → WF P W bs σ st w → GlobOk P H σ → FrOk P H f σ nt a [] fr → ModeOk P τ0 m u →
      c.wpS P (PostS P H W bs f nt c₀ cs₀ τ0 σ r) a ({ c₀ with mode := u } :: cs₀) w := fun c fr st m r σ a w u hc he h hg hf hm => by
    obtain ⟨q, hq, rfl⟩ := Option.map_eq_some_iff.1 he
    exact wpS_of_wp (wp_mono (sim_exec hR hA c fr st q σ a w hc hq h hg hf) fun e a w hp => post_still hm hp)
  induction c with
  | region id ops draw =>
    intro fr st m r σ a w u hc he h hg hf hm hτ
    simp only [execS] at he
    split at he
    · rename_i hdr
      subst hdr
      obtain ⟨q, hq, rfl⟩ := Option.map_eq_some_iff.1 he
      exact wpS_of_wp (wp_mono (hR id ops true fr st q hc hq σ a w h hg hf) fun e a w hp => post_still hm hp)
    · rename_i hdr
      have hdr' : draw = false := by simpa using hdr
      subst hdr'
      have := sim_opsS (c₀ := c₀) (cs₀ := cs₀) hX hC (dst_ok hc) ops.toList 0 [] fr st m r σ a w u rfl he h hg hf hm hτ
      exact wpS_region (by rw [List.range_eq_range']; simpa using this)
  | seq x y ihx ihy =>
    intro fr st m r σ a w u hc he h hg hf hm hτ
    simp only [codeOk, Bool.and_eq_true] at hc
    simp only [execS] at he
    obtain ⟨q, hq, h2⟩ := Option.bind_eq_some_iff.1 he
    refine wpS_seq (wpS_mono (ihx fr st m q σ a w u hc.1 hq h hg hf hm hτ) fun e a' cs' w' hp => ?_)
    obtain ⟨σ', p1, p2, p3, p4, u', rfl, p5⟩ := hp
    obtain ⟨ax, fr', st', m'⟩ := q
    cases ax with
    | normal =>
      cases e <;> first | exact p4.elim | skip
      exact wpS_mono (ihy fr' st' m' r σ' a' w' u' hc.2 h2 p2 (hg.mono p1) p3 p5 (hτ.trans p1)) fun e a cs w hh => hh.up p1
    | exit i => simp only [Option.some.injEq] at h2; subst h2; cases e <;> first | exact p4.elim | exact ⟨σ', p1, p2, p3, p4, u', rfl, p5⟩
    | goto i => simp only [Option.some.injEq] at h2; subst h2; cases e <;> first | exact p4.elim | exact ⟨σ', p1, p2, p3, p4, u', rfl, p5⟩
    | ret => simp only [Option.some.injEq] at h2; subst h2; cases e <;> first | exact p4.elim | exact ⟨σ', p1, p2, p3, p4, u', rfl, p5⟩
    | panic v => simp only [Option.some.injEq] at h2; subst h2; cases e <;> first | exact p4.elim | exact ⟨σ', p1, p2, p3, p4, u', rfl, p5⟩
  | cond c x y ihx ihy =>
    intro fr st m r σ a w u hc he h hg hf hm hτ
    simp only [codeOk, Bool.and_eq_true] at hc
    simp only [execS] at he
    obtain ⟨v, hv, h2⟩ := Option.bind_eq_some_iff.1 he
    have hr := hf.eval hg c v hv
    split at h2
    · rename_i t
      generalize hx : a.eval c = xv at hr
      cases hr
      refine wpS_cond hx ?_
      cases t with
      | true => exact ihx fr st m r σ a w u hc.1 h2 h hg hf hm hτ
      | false => exact ihy fr st m r σ a w u hc.2 h2 h hg hf hm hτ
    · simp at h2
  | _ => intro fr st m r σ a w u hc he h hg hf hm hτ; exact plain _ fr st m r σ a w u hc he h hg hf hm

theorem sim_callD {callF : CallF} {again : FuncId → Nat → AgainF} (hP : ProgOk P H) (hX : ExtOk P H) (hC : CallOk P H W bs callF) (hR : ∀ f nt base, RegionOk P H W bs f nt base callF) (hA : ∀ f nt base, AgainOk P H W bs f nt (again f base)) :
    CallDOk P H W bs (callDA P H callF again) := by
  intro g as st m r hc
  unfold callDA at hc
  obtain ⟨fn, hfn, h2⟩ := Option.bind_eq_some_iff.1 hc
  obtain ⟨c, hb, h3⟩ := Option.bind_eq_some_iff.1 h2
  clear hc h2
  split at h3
  · rename_i hlen
    obtain ⟨q, hq, h4⟩ := Option.bind_eq_some_iff.1 h3
    clear h3
    split at h4
    · rename_i hemp
      obtain ⟨o, ho, h5⟩ := Option.bind_eq_some_iff.1 h4
      obtain ⟨x, hx, rfl⟩ := Option.map_eq_some_iff.1 h5
      clear h4 h5
      obtain ⟨_, hok, hkeep⟩ := hP g fn c hfn hb
      refine ⟨has_of hP hfn hb, fun σ w vs u h hg hr hm => ?_⟩
      have hfr : FrOk P H g σ fn.ntmps { tmps := vs.toArray ++ Array.replicate (fn.ntmps - vs.toArray.size) undef, defers := [] } [] ⟨entry as, []⟩ :=
        ⟨entry_ok hr (fun i hi => hkeep i (by omega)), .nil⟩
      obtain ⟨ax, fr', st', m'⟩ := q
      have hd0 : ∀ {σ' : Gh} {a : Act}, FrOk P H g σ' fn.ntmps a [] fr' → a.defers = [] := fun hf => by
        have hd := hf.defs
        have : fr'.defers = [] := List.isEmpty_iff.1 hemp
        rw [this] at hd
        exact defs_nil hd
      -- what comes out, of each way
      have fin : ∀ {σ' : Gh} {a : Act} {w' : World} {e : Ending}, σ.Le σ' → WF P W bs σ' st' w' → OutRep P σ' e o → EndR P W bs σ x.1 x.2 e w' := fun p1 p2 p3 => sim_out h rfl p1 p2 p3 hx
      by_cases hrec : H.recov g = true
      · rw [if_pos hrec] at hq
        refine callsD_of_wpS hfn hb (fun c₀ cs hu => ?_)
        have hc0 : ({ c₀ with mode := u } : Frame) = c₀ := by subst hu; rfl
        have hw := sim_execS (c₀ := c₀) (cs₀ := cs) hX hC (hR g fn.ntmps st.length) (hA g fn.ntmps st.length) c _ _ m _ σ _ w u hok hq (h.homes _) hg hfr hm (.refl _)
        rw [hc0] at hw
        refine wpS_mono hw fun e a cs' w' hp => ?_
        obtain ⟨σ', p1, p2, p3, p4, u', rfl, p5⟩ := hp
        have ret : (ax = .normal ∨ ax = .ret) → a.defers = [] ∧ ∃ u'', ({ c₀ with mode := u' } : Frame) :: cs = { c₀ with mode := u'' } :: cs ∧ ∃ v, (results fn a.tmps).run P w' = .ok v w' ∧
            (∃ σ', σ.Le σ' ∧ WF P W bs σ' x.2 w' ∧ OutRep P σ' (.returned v) x.1 ∧ ModeOk P σ' m' u'') := fun hax => by
          have ho' : ∃ rs, resultsA P fr'.env st' fn.results.toList = some rs ∧ o = .ret (outV rs) := by
            rcases hax with rfl | rfl
            · obtain ⟨rs, h6, h7⟩ := Option.map_eq_some_iff.1 ho; exact ⟨rs, h6, h7.symm⟩
            · obtain ⟨rs, h6, h7⟩ := Option.map_eq_some_iff.1 ho; exact ⟨rs, h6, h7.symm⟩
          obtain ⟨rs, h6, rfl⟩ := ho'
          obtain ⟨v, h8, h9⟩ := sim_results p2 p3.env h6
          obtain ⟨σ'', t1, t2, t3⟩ := fin (a := a) (e := .returned v) p1 p2 h9
          exact ⟨hd0 p3, u', rfl, v, h8, σ'', t1, t2, t3, p5.mono t1⟩
        cases ax with
        | normal =>
          cases e <;> first | exact p4.elim | skip
          exact ret (.inl rfl)
        | ret =>
          cases e <;> first | exact p4.elim | skip
          exact ret (.inr rfl)
        | panic v =>
          cases e <;> first | exact p4.elim | skip
          simp only [Option.some.injEq] at ho
          subst ho
          obtain ⟨σ'', t1, t2, t3⟩ := fin (a := a) (e := .panicked _) p1 p2 p4
          exact ⟨hd0 p3, u', rfl, σ'', t1, t2, t3, p5.mono t1⟩
        | exit i => simp at ho
        | goto i => simp at ho
      · rw [if_neg hrec] at hq
        obtain ⟨q', hq', h6⟩ := Option.map_eq_some_iff.1 hq
        simp only [Prod.mk.injEq] at h6
        obtain ⟨rfl, rfl, rfl, rfl⟩ := h6
        have hw := sim_exec (hR g fn.ntmps st.length) (hA g fn.ntmps st.length) c _ _ q' σ _ w hok hq' (h.homes _) hg hfr
        refine (callsD_of_wp (R := EndR P W bs σ x.1 x.2) (u := u) hfn hb (wp_mono hw fun e a w' hp => ?_)).mono fun e u' w' he => ?_
        · obtain ⟨σ', p1, p2, p3, p4⟩ := hp
          obtain ⟨ax, fr', st'⟩ := q'
          have ret : (ax = .normal ∨ ax = .ret) → a.defers = [] ∧ ∃ v, (results fn a.tmps).run P w' = .ok v w' ∧ EndR P W bs σ x.1 x.2 (.returned v) w' := fun hax => by
            have ho' : ∃ rs, resultsA P fr'.env st' fn.results.toList = some rs ∧ o = .ret (outV rs) := by
              rcases hax with rfl | rfl
              · obtain ⟨rs, h6, h7⟩ := Option.map_eq_some_iff.1 ho; exact ⟨rs, h6, h7.symm⟩
              · obtain ⟨rs, h6, h7⟩ := Option.map_eq_some_iff.1 ho; exact ⟨rs, h6, h7.symm⟩
            obtain ⟨rs, h6, rfl⟩ := ho'
            obtain ⟨v, h8, h9⟩ := sim_results p2 p3.env h6
            exact ⟨hd0 p3, v, h8, fin (a := a) (e := .returned v) p1 p2 h9⟩
          cases ax with
          | normal =>
            cases e <;> first | exact p4.elim | skip
            exact ret (.inl rfl)
          | ret =>
            cases e <;> first | exact p4.elim | skip
            exact ret (.inr rfl)
          | panic v =>
            cases e <;> first | exact p4.elim | skip
            simp only [Option.some.injEq] at ho
            subst ho
            exact ⟨hd0 p3, fin (a := a) (e := .panicked _) p1 p2 p4⟩
          | exit i => simp at ho
          | goto i => simp at ho
        · obtain ⟨rfl, σ'', t1, t2, t3⟩ := he
          exact ⟨σ'', t1, t2, t3, hm.mono t1⟩
    · simp at h4
  · simp at h3

/-- A region in its own order. -/
theorem region_plain {callF : CallF} (hX : ExtOk P H) (hC : CallOk P H W bs callF) {id : Nat} {ops : Array Oper} {fr : Fr} {r : AX × Fr × St} {a : Act} (hc : codeOk H f nt (.region id ops false) = true)
    (he : regionA P H callF f base id ops false fr st = some r) (h : WF P W bs σ st w) (hg : GlobOk P H σ) (hf : FrOk P H f σ nt a [] fr) : (Code.region id ops false).wp P (PostOk P H W bs f nt σ r) a w := by
  simp only [regionA, Bool.false_eq_true, if_false] at he
  have := sim_ops hX hC (dst_ok hc) ops.toList 0 [] fr st r σ a w rfl he h hg hf
  exact wp_region (by rw [List.range_eq_range']; simpa using this)

/-- Regions that draw, at whatever calls. -/
def DrawOk (P : Program) (H : Hints) (W : World) (bs : Nat) : Prop :=
  ∀ callF, CallOk P H W bs callF → ∀ f nt base id ops fr st r, codeOk H f nt (.region id ops true) = true → regionA P H callF f base id ops true fr st = some r → ∀ σ a w, WF P W bs σ st w → GlobOk P H σ → FrOk P H f σ nt a [] fr → (Code.region id ops true).wp P (PostOk P H W bs f nt σ r) a w

theorem regions_ok {callF : CallF} (hX : ExtOk P H) (hW : DrawOk P H W bs) (hC : CallOk P H W bs callF) (f : FuncId) (nt base : Nat) : RegionOk P H W bs f nt base callF := by
  intro id ops draw fr st r hc he σ a w h hg hf
  cases draw with
  | false => exact region_plain hX hC hc he h hg hf
  | true => exact hW callF hC f nt base id ops fr st r hc he σ a w h hg hf

theorem levels_ok (hP : ProgOk P H) (hX : ExtOk P H) (hM : PrimOk P H W bs) (hW : DrawOk P H W bs) : ∀ n, CallOk P H W bs (levels P H n).1 ∧ ∀ f nt base, AgainOk P H W bs f nt ((levels P H n).2 f base)
  | 0 => ⟨fun g as st r h => by simp [levels] at h, fun f nt base t fr st r _ h => by simp [levels] at h⟩
  | n + 1 => by
    obtain ⟨h1, h2⟩ := levels_ok hP hX hM hW n
    have hR := regions_ok hX hW h1
    exact ⟨sim_call hP hM hR h2 (sim_callD hP hX h1 hR h2), fun f nt base => sim_task (hR f nt base) (h2 f nt base)⟩

/-- What a run by value says of a call. -/
theorem callN_ok (hP : ProgOk P H) (hX : ExtOk P H) (hM : PrimOk P H W bs) (hW : DrawOk P H W bs) (n : Nat) : CallOk P H W bs (callN P H n) := (levels_ok hP hX hM hW n).1
end
end Go.Abs

/- The interpreter by value: regions that draw: what an operation looks at. -/
namespace Go.Abs
open Go Go.RowKit
set_option linter.unusedVariables false
set_option linter.unusedSimpArgs false

section
variable {P : Program} {H : Hints} {W : World} {bs : Nat} {σ σ' : Gh} {st : St} {w : World} {f : FuncId} {nt base : Nat}

theorem evs_congr {ev ev' : Operand → Option AV} : ∀ {xs : List Operand}, (∀ x ∈ xs, ev x = ev' x) → evs ev xs = evs ev' xs
  | [], _ => rfl
  | x :: xs, h => by
    simp only [evs]
    rw [h x List.mem_cons_self, evs_congr fun y hy => h y (List.mem_cons_of_mem _ hy)]
theorem evps_congr {ev ev' : Operand → Option AV} : ∀ {xs : List (Nat × Operand)}, (∀ p ∈ xs, ev p.2 = ev' p.2) → evps ev xs = evps ev' xs
  | [], _ => rfl
  | (i, x) :: xs, h => by
    simp only [evps]
    rw [h (i, x) List.mem_cons_self, evps_congr fun y hy => h y (List.mem_cons_of_mem _ hy)]

theorem home_congr {ev ev' : Operand → Option AV} {o : Oper} (h : ∀ x ∈ looksA H f o, ev x = ev' x) (st : St) (base : Nat) : homeOf H f ev st base o.dst = homeOf H f ev' st base o.dst := by
  unfold homeOf
  cases hh : o.dst.bind (H.home f) with
  | none => rfl
  | some q =>
    obtain ⟨s, q2⟩ := q
    cases s with
    | none => rfl
    | some s =>
      have : ev (.tmp s) = ev' (.tmp s) := h (.tmp s) (by simp [looksA, hh])
      simp only [Option.bind_some, this]

theorem opA_congr {ev ev' : Operand → Option AV} {o : Oper} (h : ∀ x ∈ looksA H f o, ev x = ev' x) : opA P H f ev st base o.dst o.op = opA P H f ev' st base o.dst o.op := by
  have hh := home_congr h st base
  have ho : ∀ x ∈ o.op.operands, ev x = ev' x := fun x hx => h x (List.mem_append_left _ (by simpa using hx))
  clear h
  obtain ⟨dst, op, type, pos, after, guard⟩ := o
  simp only at hh ho ⊢
  cases op <;> simp only [Op.operands] at ho <;> simp only [opA, pickA, allocA, boxA, buildOA, buildSliceA, storeOA, binOA, convOA, ifaceA, funcA, makeSliceOA, sliceOA, lookupOA, mapUpdateOA, hh]
  case build t ps => rw [evps_congr (xs := ps.toList) fun p hp => ho p.2 (by simp; exact ⟨p.1, by simpa using hp⟩)]
  case buildSlice t n ps => rw [evps_congr (xs := ps.toList) fun p hp => ho p.2 (by simp; exact ⟨p.1, by simpa using hp⟩)]
  case makeFunc fn first cap => rw [evs_congr (xs := cap.toList) fun x hx => ho x (by simp_all)]
  case call c =>
    have hargs : evs ev c.args.toList = evs ev' c.args.toList := evs_congr fun x hx => ho x (by simp [Call.operands]; right; simpa using hx)
    unfold callBA
    cases hc : c.callee with
    | builtin b => simp only [hargs, hh]
    | invoke r m => rfl
    | value x => cases x <;> simp only [hargs]
  case defer c =>
    have hargs : evs ev c.args.toList = evs ev' c.args.toList := evs_congr fun x hx => ho x (by simp [Call.operands]; right; simpa using hx)
    unfold deferA
    cases hc : c.callee with
    | builtin b => rfl
    | invoke r m => rfl
    | value x =>
      have hx : ev x = ev' x := ho x (by simp [Call.operands, hc])
      simp only [hargs, hx]
  case slice t x lo hi mx =>
    cases lo <;> cases hi <;> cases mx <;> simp_all [evs]
  all_goals (first | rfl | (simp_all; done))

theorem callOf_congr {ev ev' : Operand → Option AV} {op : Op} (ho : ∀ x ∈ op.operands, ev x = ev' x) : callOf H ev op = callOf H ev' op := by
  cases op <;> try rfl
  case call c =>
    simp only [Op.operands] at ho
    have hargs : evs ev c.args.toList = evs ev' c.args.toList := evs_congr fun x hx => ho x (by simp [Call.operands]; right; simpa using hx)
    unfold callOf
    cases hc : c.callee with
    | builtin b => simp only [hc]
    | invoke r m => simp only [hc]
    | value x =>
      have hx : ev x = ev' x := ho x (by simp [Call.operands, hc])
      cases x <;> simp only [hc, hargs, hx]

theorem stepV_congr {callF : CallF} {ev ev' : Operand → Option AV} {o : Oper} (h : ∀ x ∈ looksA H f o, ev x = ev' x) : stepV P H callF f base o ev st = stepV P H callF f base o ev' st := by
  unfold stepV
  rw [callOf_congr fun x hx => h x (List.mem_append_left _ (by simpa using hx)), opA_congr h]
end
end Go.Abs

/- The interpreter by value: values that are the same. -/
namespace Go.Abs
open Go Go.RowKit
set_option linter.unusedVariables false
set_option linter.unusedSimpArgs false

mutual
theorem AV.beq_eq (a b : AV) (h : AV.beq a b = true) : a = b := by
  cases a <;> cases b <;> simp only [AV.beq, Bool.and_eq_true, beq_iff_eq, Bool.false_eq_true] at h
  all_goals first
    | rfl
    | (subst h; rfl)
    | (obtain ⟨rfl, rfl⟩ := h; rfl)
    | (rw [AV.beqs_eq _ _ h])
    | (obtain ⟨h1, h2⟩ := h; rw [AV.beqs_eq _ _ h1, h2])
    | (obtain ⟨h1, h2⟩ := h; rw [h1, AV.beqs_eq _ _ h2])
    | (obtain ⟨h1, h2⟩ := h; rw [h1, AV.beq_eq _ _ h2])
    | (obtain ⟨h1, h2⟩ := h; rw [AV.beqss_eq _ _ h1, h2])
    | (obtain ⟨⟨⟨⟨h1, h2⟩, h3⟩, h4⟩, h5⟩ := h; rw [h1, AV.beqss_eq _ _ h2, h3, h4, h5])
    | (obtain ⟨⟨⟨⟨h1, h2⟩, h3⟩, h4⟩, h5⟩ := h; rw [h1, h2, h3, h4, h5])
    | (obtain ⟨⟨⟨h1, h2⟩, h3⟩, h4⟩ := h; rw [h1, h2, h3, h4])
termination_by structural a
theorem AV.beqs_eq (a b : List AV) (h : AV.beqs a b = true) : a = b := by
  cases a <;> cases b <;> simp only [AV.beqs, Bool.and_eq_true, Bool.false_eq_true] at h
  · rfl
  · rw [AV.beq_eq _ _ h.1, AV.beqs_eq _ _ h.2]
termination_by structural a
theorem AV.beqss_eq (a b : List (List AV)) (h : AV.beqss a b = true) : a = b := by
  cases a <;> cases b <;> simp only [AV.beqss, Bool.and_eq_true, Bool.false_eq_true] at h
  · rfl
  · rw [AV.beqs_eq _ _ h.1, AV.beqss_eq _ _ h.2]
termination_by structural a
end
end Go.Abs

/- The interpreter by value: the run of a region that draws, in its own order, step by step. -/
namespace Go.Abs
open Go Go.RowKit
set_option linter.unusedVariables false
set_option linter.unusedSimpArgs false

section
variable {P : Program} {H : Hints} {W : World} {bs : Nat} {σ σ' : Gh} {w : World} {f : FuncId} {nt base : Nat} {callF : CallF} {ops : Array Oper}

/-- Where a run stands: the region's own slots, the frame, the objects. -/
abbrev Sit := Env × Fr × St

/-- One operation of the run, without a panic. -/
def StepD (P : Program) (H : Hints) (callF : CallF) (f : FuncId) (base : Nat) (ops : Array Oper) (o : Oper) (x y : Sit) : Prop :=
  (wantA ops x.1 x.2.1.env o = some false ∧ y = ((putD H f o.dst undefA x.1 x.2.1.env).1, { x.2.1 with env := (putD H f o.dst undefA x.1 x.2.1.env).2 }, x.2.2)) ∨
  (wantA ops x.1 x.2.1.env o = some true ∧ ∃ r, stepA P H callF f base o x.1 x.2.1.env x.2.2 = some r ∧ landA H f o r.1 x.1 x.2.1 r.2 = some y)

/-- The states behind the operations that may write, the last first. -/
def pushE (o : Oper) (st : St) (tr : List St) : List St := if isE o.op then st :: tr else tr

theorem opsD_run : ∀ (l : List Oper) (x : Sit) (tr : List St) (k : Nat) (r : AX × Env × Fr × St × List St × Nat), opsD P H callF f base ops l x.1 x.2.1 x.2.2 tr k = some r →
    ∃ (m : Nat) (xs : Nat → Sit), xs 0 = x ∧ m ≤ l.length ∧ r.2.2.2.2.2 = k + m ∧ (∀ j, j < m → ∃ o, l[j]? = some o ∧ StepD P H callF f base ops o (xs j) (xs (j + 1))) ∧ r.2.1 = (xs m).1 ∧ r.2.2.1 = (xs m).2.1 ∧
      ((r.1 = .normal ∧ m = l.length ∧ r.2.2.2.1 = (xs m).2.2) ∨ ∃ v o, r.1 = .panic v ∧ l[m]? = some o ∧ wantA ops (xs m).1 (xs m).2.1.env o = some true ∧ stepA P H callF f base o (xs m).1 (xs m).2.1.env (xs m).2.2 = some (.pan v, r.2.2.2.1)) ∧
      r.2.2.2.2.1 = (List.range m).foldl (fun tr j => match l[j]? with | some o => pushE o (xs (j + 1)).2.2 tr | none => tr) tr
  | [], x, tr, k, r, h => by
    simp only [opsD, Option.some.injEq] at h
    subst h
    exact ⟨0, fun _ => x, rfl, Nat.le_refl _, rfl, fun j hj => by omega, rfl, rfl, .inl ⟨rfl, rfl, rfl⟩, rfl⟩
  | o :: l, x, tr, k, r, h => by
    have cont : ∀ y : Sit, StepD P H callF f base ops o x y → opsD P H callF f base ops l y.1 y.2.1 y.2.2 (pushE o y.2.2 tr) (k + 1) = some r →
        ∃ (m : Nat) (xs : Nat → Sit), xs 0 = x ∧ m ≤ (o :: l).length ∧ r.2.2.2.2.2 = k + m ∧ (∀ j, j < m → ∃ o', (o :: l)[j]? = some o' ∧ StepD P H callF f base ops o' (xs j) (xs (j + 1))) ∧ r.2.1 = (xs m).1 ∧ r.2.2.1 = (xs m).2.1 ∧
          ((r.1 = .normal ∧ m = (o :: l).length ∧ r.2.2.2.1 = (xs m).2.2) ∨ ∃ v o', r.1 = .panic v ∧ (o :: l)[m]? = some o' ∧ wantA ops (xs m).1 (xs m).2.1.env o' = some true ∧ stepA P H callF f base o' (xs m).1 (xs m).2.1.env (xs m).2.2 = some (.pan v, r.2.2.2.1)) ∧
          r.2.2.2.2.1 = (List.range m).foldl (fun tr j => match (o :: l)[j]? with | some o => pushE o (xs (j + 1)).2.2 tr | none => tr) tr := fun y hy hr => by
      obtain ⟨m, xs, h1, h2, h3, h4, h5, h6, h7, h8⟩ := opsD_run l y _ _ r hr
      refine ⟨m + 1, fun j => match j with | 0 => x | j + 1 => xs j, rfl, by simpa using h2, by omega, fun j hj => ?_, h5, h6, ?_, ?_⟩
      · cases j with
        | zero => exact ⟨o, rfl, by rw [← h1] at hy; exact hy⟩
        | succ j => exact h4 j (by omega)
      · rcases h7 with ⟨a1, a2, a3⟩ | ⟨v, o', a1, a2, a3, a4⟩
        · exact .inl ⟨a1, by simp [a2], a3⟩
        · exact .inr ⟨v, o', a1, by simpa using a2, a3, a4⟩
      · rw [h8, List.range_succ_eq_map, List.foldl_cons, List.foldl_map]
        simp [h1]
    simp only [opsD] at h
    obtain ⟨b, hb, h2⟩ := Option.bind_eq_some_iff.1 h
    cases b with
    | false =>
      simp only [Bool.false_eq_true, if_false] at h2
      exact cont (_, _, x.2.2) (.inl ⟨hb, rfl⟩) h2
    | true =>
      simp only [if_true] at h2
      obtain ⟨q, hq, h3⟩ := Option.bind_eq_some_iff.1 h2
      obtain ⟨res, st'⟩ := q
      cases res with
      | pan v =>
        simp only [Option.some.injEq] at h3
        subst h3
        exact ⟨0, fun _ => x, rfl, Nat.zero_le _, rfl, fun j hj => by omega, rfl, rfl, .inr ⟨v, o, rfl, rfl, hb, hq⟩, rfl⟩
      | val a =>
        obtain ⟨y, hy, h4⟩ := Option.bind_eq_some_iff.1 h3
        exact cont y (.inr ⟨hb, _, hq, hy⟩) h4
      | skip =>
        obtain ⟨y, hy, h4⟩ := Option.bind_eq_some_iff.1 h3
        exact cont y (.inr ⟨hb, _, hq, hy⟩) h4
      | defer g as =>
        obtain ⟨y, hy, h4⟩ := Option.bind_eq_some_iff.1 h3
        exact cont y (.inr ⟨hb, _, hq, hy⟩) h4
end
end Go.Abs

/- The interpreter by value: operations that write nothing. -/
namespace Go.Abs
open Go Go.RowKit
set_option linter.unusedVariables false
set_option linter.unusedSimpArgs false

section
variable {P : Program} {H : Hints} {f : FuncId} {base : Nat} {st : St} {ev : Operand → Option AV}

/-- An operation that writes nothing leaves the objects as they are, and gives a value. -/
theorem opA_still {dst : Option Tmp} {op : Op} {r : Res × St} (he : isE op = false) (h : opA P H f ev st base dst op = some r) : ∃ a, r = (.val a, st) := by
  cases op <;> simp only [isE, Bool.true_eq_false, reduceCtorEq] at he <;> simp only [opA] at h <;> try (obtain ⟨a, _, rfl⟩ := vA_some h; exact ⟨a, rfl⟩)
  case call c =>
    unfold callBA at h
    split at h
    · rename_i b hc
      rw [hc] at he
      obtain ⟨as, has, h2⟩ := Option.bind_eq_some_iff.1 h
      unfold builtinA at h2
      split at h2 <;> simp at he
      · obtain ⟨t, ht, h3⟩ := Option.bind_eq_some_iff.1 h2
        obtain ⟨q, hq, rfl⟩ := Option.map_eq_some_iff.1 h3
        exact ⟨q, rfl⟩
      · obtain ⟨q, hq, rfl⟩ := Option.map_eq_some_iff.1 h2; exact ⟨q, rfl⟩
      · obtain ⟨q, hq, rfl⟩ := Option.map_eq_some_iff.1 h2; exact ⟨q, rfl⟩
      · obtain ⟨q, hq, rfl⟩ := Option.map_eq_some_iff.1 h2; exact ⟨q, rfl⟩
      · simp at h2
    · rename_i g hc
      rw [hc] at he
      simp at he
    · simp at h
end
end Go.Abs

/- The interpreter by value: regions that draw: slots, ancestors. -/
namespace Go.Abs
open Go Go.RowKit
set_option linter.unusedVariables false
set_option linter.unusedSimpArgs false

section
variable {P : Program} {H : Hints} {W : World} {bs : Nat} {σ σ' : Gh} {st : St} {w : World} {f : FuncId} {nt base : Nat} {callF : CallF} {ops : Array Oper}

/-- Which slots lie where. -/
structure EnvShape (H : Hints) (f : FuncId) (loc env : Env) : Prop where
  loc : ∀ t v, Env.get loc t = some v → (H.keep f).contains t = false
  kept : ∀ t v, Env.get env t = some v → (H.keep f).contains t = true
  srt : env.Pairwise fun p q => p.1 < q.1

theorem look_putD {loc env : Env} {d t : Nat} {v : AV} (h : EnvShape H f loc env) : look (putD H f (some d) v loc env).1 (putD H f (some d) v loc env).2 t = if t = d then some v else look loc env t := by
  unfold putD
  by_cases hk : (H.keep f).contains d = true
  · simp only [hk, if_true]
    unfold look
    rw [Env.get_set]
    by_cases e : t = d
    · subst e
      rw [if_pos rfl, if_pos rfl]
      cases hl : Env.get loc t with
      | none => rfl
      | some u => have := h.loc t u hl; rw [hk] at this; simp at this
    · rw [if_neg e, if_neg e]
  · simp only [hk, Bool.false_eq_true, if_false]
    unfold look
    simp only [Env.get]
    by_cases e : t = d
    · subst e; simp
    · have e' : ¬ d = t := fun x => e x.symm
      rw [if_neg e', if_neg e]

theorem EnvShape.put {loc env : Env} {dst : Option Tmp} {v : AV} (h : EnvShape H f loc env) : EnvShape H f (putD H f dst v loc env).1 (putD H f dst v loc env).2 := by
  cases dst with
  | none => exact h
  | some d =>
    unfold putD
    by_cases hk : (H.keep f).contains d = true
    · simp only [hk, if_true]
      refine ⟨h.loc, fun t u hu => ?_, Env.set_srt h.srt⟩
      rw [Env.get_set] at hu
      by_cases e : t = d
      · subst e; exact hk
      · rw [if_neg e] at hu; exact h.kept t u hu
    · simp only [hk, Bool.false_eq_true, if_false]
      have hk' : (H.keep f).contains d = false := by simpa using hk
      refine ⟨fun t u hu => ?_, h.kept, h.srt⟩
      simp only [Env.get] at hu
      by_cases e : d = t
      · subst e; exact hk'
      · rw [if_neg e] at hu; exact h.loc t u hu

/-! ### What must come ahead -/
theorem ancOf_bit {anc : List Nat} {i : Nat} : ∀ (es : List Edge) (m : Nat), (es.foldl (fun m e => if Region.binds .any e then (m ||| (1 <<< e.on)) ||| anc.getD e.on 0 else m) m).testBit i = true →
    m.testBit i = true ∨ ∃ e ∈ es, Region.binds .any e = true ∧ (e.on = i ∨ (anc.getD e.on 0).testBit i = true)
  | [], m, h => .inl h
  | e :: es, m, h => by
    simp only [List.foldl_cons] at h
    rcases ancOf_bit es _ h with h | ⟨e', he, h1, h2⟩
    · split at h
      · rename_i hb
        simp only [Nat.testBit_or, Bool.or_eq_true] at h
        rcases h with (h | h) | h
        · exact .inl h
        · refine .inr ⟨e, List.mem_cons_self, hb, .inl ?_⟩
          rw [Nat.one_shiftLeft, Nat.testBit_two_pow] at h
          simpa using h
        · exact .inr ⟨e, List.mem_cons_self, hb, .inr h⟩
      · exact .inl h
    · exact .inr ⟨e', List.mem_cons_of_mem _ he, h1, h2⟩

theorem ancsGo_spec : ∀ (l : List Oper) (anc : List Nat), ∃ l', ancsGo l anc = anc ++ l' ∧ l'.length = l.length ∧ ∀ (j : Nat) o, l[j]? = some o → l'[j]? = some (ancOf (anc ++ l'.take j) o.after.toList)
  | [], anc => ⟨[], by simp [ancsGo], rfl, by simp⟩
  | o :: l, anc => by
    obtain ⟨l', h1, h2, h3⟩ := ancsGo_spec l (anc ++ [ancOf anc o.after.toList])
    refine ⟨ancOf anc o.after.toList :: l', by rw [ancsGo, h1]; simp, by simp [h2], fun j o' hj => ?_⟩
    cases j with
    | zero => simp at hj; subst hj; simp
    | succ j =>
      have := h3 j o' (by simpa using hj)
      simpa [List.append_assoc] using this
theorem ancs_spec {ops : Array Oper} {j : Nat} {o : Oper} (h : ops[j]? = some o) : (ancs ops)[j]? = some (ancOf ((ancs ops).take j) o.after.toList) := by
  obtain ⟨l', h1, h2, h3⟩ := ancsGo_spec ops.toList []
  have e : ancs ops = l' := by rw [ancs, h1]; rfl
  rw [e]
  have := h3 j o (by simpa using h)
  simpa using this

/-- Listed operations bear what binds them. -/
def Closed (ops : Array Oper) (L : Nat → Prop) : Prop := ∀ j o, L j → ops[j]? = some o → ∀ e ∈ o.after.toList, Region.binds .any e = true → L e.on

theorem anc_listed {L : Nat → Prop} (hc : Closed ops L) : ∀ (j : Nat) (o : Oper), ops[j]? = some o → (∀ e ∈ o.after.toList, Region.binds .any e = true → L e.on) → ∀ i, ((ancs ops).getD j 0).testBit i = true → L i := by
  intro j
  induction j using Nat.strongRecOn with
  | _ j ih =>
    intro o ho hl i hi
    have hs := ancs_spec ho
    rw [List.getD_eq_getElem?_getD, hs, Option.getD_some] at hi
    rcases ancOf_bit _ _ hi with h | ⟨e, he, hb, h⟩
    · simp at h
    · rcases h with rfl | h
      · exact hl e he hb
      · rw [List.getD_eq_getElem?_getD, List.getElem?_take] at h
        split at h
        · rename_i hlt
          have hL := hl e he hb
          cases hoe : ops[e.on]? with
          | none =>
            have : ops.size ≤ e.on := by simpa using hoe
            have hj : j < ops.size := (Array.getElem?_eq_some_iff.1 ho).1
            omega
          | some o' =>
            exact ih e.on hlt o' hoe (fun e' he' hb' => hc e.on o' hL hoe e' he' hb') i (by rw [List.getD_eq_getElem?_getD]; exact h)
        · simp at h
end
end Go.Abs

/- The interpreter by value: regions that draw: what the check says; operations that do not look at the objects. -/
namespace Go.Abs
open Go Go.RowKit
set_option linter.unusedVariables false
set_option linter.unusedSimpArgs false

section
variable {P : Program} {H : Hints} {W : World} {bs : Nat} {σ σ' : Gh} {st : St} {w : World} {f : FuncId} {nt base : Nat} {callF : CallF} {ops : Array Oper} {id : Nat}

/-- i must come ahead of j. -/
def Bit (ops : Array Oper) (j i : Nat) : Prop := ((ancs ops).getD j 0).testBit i = true

structure D1 (H : Hints) (f : FuncId) (id : Nat) (ops : Array Oper) (j : Nat) (o : Oper) : Prop where
  low : ∀ e ∈ o.after.toList, Region.binds .any e = true → e.on < j
  rd : ∀ (i : Nat) (oi : Oper) (t : Nat), ops[i]? = some oi → oi.dst = some t → t ∈ readsA H f ops o → i < j ∧ Bit ops j i
  wr : ∀ (i : Nat) (oi : Oper) (t : Nat), ops[i]? = some oi → oi.dst = some t → o.dst = some t → i = j
  ee : isE o.op = true → ∀ (i : Nat) (oi : Oper), ops[i]? = some oi → isE oi.op = true → i < j → Bit ops j i
  nf : isE o.op = false → ∀ d, o.dst = some d → H.frz f d = false
  see : isE o.op = false → seesSt o.op = true → (∀ (i : Nat) (oi : Oper), ops[i]? = some oi → isE oi.op = true → Bit ops j i ∨ Bit ops i j) ∨
    ∃ x ∈ H.recheck f id, x.1 = j ∧ x.2.1 ≤ ((List.range ops.size).countP fun i => eOf (ops[i]?) && ((ancs ops).getD j 0).testBit i) ∧ ((List.range ops.size).countP fun i => eOf (ops[i]?) && !((ancs ops).getD i 0).testBit j) ≤ x.2.2
  pan : H.pok f id = true → isE o.op = true → mayPan o.op = true → ∀ i, i < ops.size → j < i → Bit ops i j

theorem D1.of (h : drawOk H f id ops = true) {j : Nat} {o : Oper} (ho : ops[j]? = some o) : D1 H f id ops j o := by
  have hlt : ∀ {i : Nat} {oi : Oper}, ops[i]? = some oi → i ∈ List.range ops.size := fun hi => List.mem_range.2 (Array.getElem?_eq_some_iff.1 hi).1
  have h1 := List.all_eq_true.1 h j (hlt ho)
  simp only [ho] at h1
  simp only [drawOk1, Bool.and_eq_true] at h1
  obtain ⟨⟨⟨h2, h3⟩, h4⟩, h5⟩ := h1
  refine ⟨fun e he hb => ?_, fun i oi t hi ht hr => ?_, fun i oi t hi ht hr => ?_, fun hE i oi hi hEi hij => ?_, fun hE d hd => ?_, fun hE hs => ?_, fun hp hE hm i hi hji => ?_⟩
  · have := List.all_eq_true.1 h2 e he
    simpa [hb] using this
  · have := List.all_eq_true.1 h3 i (hlt hi)
    simp only [hi, Option.bind_some, ht, Bool.and_eq_true, Bool.or_eq_true, Bool.not_eq_true', decide_eq_true_eq] at this
    rcases this.1 with h | h
    · have hc : (readsA H f ops o).contains t = true := by simpa using hr
      rw [hc] at h; simp at h
    · exact ⟨h.1, h.2⟩
  · have := List.all_eq_true.1 h3 i (hlt hi)
    simp only [hi, Option.bind_some, ht, Bool.and_eq_true, Bool.or_eq_true] at this
    rcases this.2 with h | h
    · rw [hr] at h; simp at h
    · simpa using h
  · rw [if_pos hE] at h4
    have := List.all_eq_true.1 h4 i (hlt hi)
    simp only [hi, eOf, hEi, Bool.or_eq_true, Bool.not_eq_true', decide_eq_false_iff_not, Bool.true_eq_false, or_false] at this
    rcases this with h | h
    · exact absurd hij h
    · exact h
  · rw [if_neg (by simp [hE])] at h4
    simp only [Bool.and_eq_true] at h4
    have := h4.1
    rw [hd] at this
    simpa using this
  · rw [if_neg (by simp [hE])] at h4
    simp only [Bool.and_eq_true, hs, Bool.or_eq_true, Bool.not_true, Bool.false_eq_true, false_or] at h4
    rcases h4.2 with h | h
    · left
      intro i oi hi hEi
      have := List.all_eq_true.1 h i (hlt hi)
      simp only [hi, eOf, hEi, Bool.not_true, Bool.or_eq_true, Bool.false_eq_true, false_or] at this
      exact this
    · right
      obtain ⟨x, hx, h6⟩ := List.any_eq_true.1 h
      simp only [Bool.and_eq_true, beq_iff_eq, decide_eq_true_eq] at h6
      exact ⟨x, hx, h6.1.1, h6.1.2, h6.2⟩
  · simp only [hp, hE, hm, Bool.and_self, Bool.not_true, Bool.or_eq_true, Bool.false_eq_true, false_or] at h5
    have := List.all_eq_true.1 h5 i (List.mem_range.2 hi)
    simp only [Bool.or_eq_true, Bool.not_eq_true', decide_eq_false_iff_not] at this
    rcases this with h | h
    · exact absurd hji h
    · exact h

theorem vA_st {st st' : St} {v : Option AV} {r : Res × St} (h : vA st v = some r) : vA st' v = some (r.1, st') := by
  unfold vA at *
  obtain ⟨a, ha, rfl⟩ := Option.map_eq_some_iff.1 h
  rw [ha]; rfl

/-- An operation that neither writes nor looks at the objects gives the same over any. -/
theorem opA_blind {ev : Operand → Option AV} {st' : St} {dst : Option Tmp} {op : Op} {r : Res × St} (he : isE op = false) (hs : seesSt op = false) (h : opA P H f ev st base dst op = some r) :
    opA P H f ev st' base dst op = some (r.1, st') := by
  cases op <;> simp only [isE, Bool.true_eq_false, reduceCtorEq] at he <;> simp only [seesSt, Bool.true_eq_false, reduceCtorEq] at hs <;> simp only [opA] at h ⊢ <;> try exact vA_st h
  case call c =>
    unfold callBA at h ⊢
    split at h
    · rename_i b hc
      rw [hc] at he hs
      obtain ⟨as, has, h2⟩ := Option.bind_eq_some_iff.1 h
      rw [has]
      simp only [Option.bind_some]
      cases b <;> simp at he <;> simp at hs
      · cases as with
        | nil => simp [builtinA] at h2
        | cons x r' =>
          simp only [builtinA] at h2 ⊢
          obtain ⟨q, hq, rfl⟩ := Option.map_eq_some_iff.1 h2
          rw [hq]; rfl
      · cases as with
        | nil => simp [builtinA] at h2
        | cons x r' =>
          simp only [builtinA] at h2 ⊢
          obtain ⟨q, hq, rfl⟩ := Option.map_eq_some_iff.1 h2
          rw [hq]; rfl
    · rename_i g hc
      rw [hc] at he
      simp at he
    · simp at h

/-- A look that does not go to the objects gives the same over any. -/
theorem opA_still2 {ev : Operand → Option AV} {st' : St} {dst : Option Tmp} {op : Op} {r : Res × St} (he : isE op = false) (hs : stillOp ev op = true) (h : opA P H f ev st base dst op = some r) :
    opA P H f ev st' base dst op = some (r.1, st') := by
  cases op <;> simp only [stillOp, Bool.false_eq_true] at hs
  case slice t x lo hi mx =>
    simp only [opA, sliceOA] at h ⊢
    cases hx : ev x with
    | none => rw [hx] at hs; simp at hs
    | some v =>
      rw [hx] at hs h
      simp only [Option.bind_some] at h ⊢
      have : ∀ a b c, sliceA P st t v a b c = sliceA P st' t v a b c := fun a b c => by
        cases v <;> first | rfl | (simp [notMs] at hs; done) | skip
        all_goals (unfold sliceA; cases P.underlying t with | none => rfl | some d => cases d <;> rfl)
      simp only [this] at h
      exact vA_st h
  case indexAddr t x i =>
    simp only [opA] at h ⊢
    cases hx : ev x with
    | none => rw [hx] at hs; simp at hs
    | some v =>
      rw [hx] at hs h
      simp only [Option.bind_some] at h ⊢
      have : ∀ i, indexAddrA P st t v i = indexAddrA P st' t v i := fun i => by
        cases v <;> first | rfl | (simp [notMs] at hs; done) | skip
        all_goals (unfold indexAddrA; cases P.underlying t with | none => rfl | some d => cases d <;> rfl)
      simp only [funext this] at h
      exact vA_st h
  case load t a =>
    simp only [opA] at h ⊢
    cases hx : ev a with
    | none => rw [hx] at hs; simp at hs
    | some v =>
      rw [hx] at hs h
      simp only [Option.bind_some] at h ⊢
      have : ldA P st t v = ldA P st' t v := by
        cases v <;> first | rfl | (simp [isIp] at hs; done)
      rw [this] at h
      exact vA_st h
  case call c =>
    simp only [opA] at h ⊢
    unfold callBA at h ⊢
    split at h
    · rename_i b hc
      rw [hc] at hs
      simp only at hs
      cases b <;> simp only [Bool.false_eq_true] at hs
      obtain ⟨as, has, h2⟩ := Option.bind_eq_some_iff.1 h
      rw [has]
      simp only [Option.bind_some]
      split at hs
      · rename_i x hx
        cases hv : ev x with
        | none => rw [hv] at hs; simp at hs
        | some v =>
          rw [hv] at hs
          simp only at hs
          have hasv : as = [v] := by
            rw [hx] at has
            simp only [evs, hv, Option.bind_some, Option.map_some, Option.some.injEq] at has
            exact has.symm
          subst hasv
          simp only [builtinA] at h2 ⊢
          obtain ⟨t, ht, h3⟩ := Option.bind_eq_some_iff.1 h2
          obtain ⟨u, hu, rfl⟩ := Option.map_eq_some_iff.1 h3
          have : lenA P st t v = lenA P st' t v := by
            cases v <;> first | rfl | (simp [notMp] at hs; done) | skip
            all_goals (unfold lenA; cases P.underlying t with | none => rfl | some d => cases d <;> rfl)
          rw [ht]
          simp only [Option.bind_some, ← this, hu, Option.map_some]
      · simp at hs
    · rename_i g hc
      rw [hc] at hs
      simp at hs
    · simp at h

theorem stepV_still {o : Oper} {ev : Operand → Option AV} (he : isE o.op = false) : stepV P H callF f base o ev st = opA P H f ev st base o.dst o.op := by
  unfold stepV
  have : callOf H ev o.op = none := by
    generalize o.op = op at *
    cases op <;> try rfl
    case call c =>
      unfold callOf
      cases hc : c.callee with
      | builtin b => simp only [hc]
      | invoke r m => simp only [hc]
      | value x => simp [isE, hc] at he
  rw [this]

theorem stepV_pan {o : Oper} {ev : Operand → Option AV} {v : AV} {st' : St} (h : stepV P H callF f base o ev st = some (.pan v, st')) : isE o.op = true ∧ mayPan o.op = true := by
  have hE : isE o.op = true := by
    cases hE : isE o.op with
    | true => rfl
    | false =>
      rw [stepV_still hE] at h
      obtain ⟨a, ha⟩ := opA_still hE h
      cases ha
  refine ⟨hE, ?_⟩
  unfold stepV at h
  generalize o.op = op at *
  cases op <;> try rfl
  all_goals
    exfalso
    simp only [callOf, opA] at h
    first
      | (obtain ⟨a, _, ha⟩ := vA_some h; cases ha; done)
      | (simp only [vsA, Option.map_eq_some_iff] at h; obtain ⟨q, _, hq⟩ := h; cases hq; done)
      | (simp only [usA, Option.map_eq_some_iff] at h; obtain ⟨q, _, hq⟩ := h; cases hq; done)
      | skip
  all_goals first
    | (simp at h; done)
    | skip
  case makeMap t r => cases r <;> simp at h
  case defer c =>
    simp only [deferA] at h
    split at h
    · obtain ⟨fv, _, h2⟩ := Option.bind_eq_some_iff.1 h
      split at h2
      · obtain ⟨q, _, hq⟩ := Option.map_eq_some_iff.1 h2; cases hq
      · simp at h2
    · simp at h
end
end Go.Abs

/- The interpreter by value: regions that draw: the run in its own order, looked at from any order. -/
namespace Go.Abs
open Go Go.RowKit
set_option linter.unusedVariables false
set_option linter.unusedSimpArgs false

section
variable {P : Program} {H : Hints} {W : World} {bs : Nat} {σ σ' : Gh} {st : St} {w : World} {f : FuncId} {nt base : Nat} {callF : CallF} {ops : Array Oper} {id : Nat}

abbrev Sit.look (x : Sit) (t : Nat) : Option AV := Go.Abs.look x.1 x.2.1.env t
abbrev Sit.objs (x : Sit) : St := x.2.2
abbrev Sit.defers (x : Sit) : List (FuncId × List AV) := x.2.1.defers

theorem step_facts {o : Oper} {x y : Sit} {j : Nat} (hd : D1 H f id ops j o) (h : StepD P H callF f base ops o x y) (hs : EnvShape H f x.1 x.2.1.env) :
    EnvShape H f y.1 y.2.1.env ∧ (∀ t, o.dst ≠ some t → y.look t = x.look t) ∧ (isE o.op = false → y.objs = x.objs ∧ y.defers = x.defers) := by
  have lk : ∀ (v : AV) (t : Nat), o.dst ≠ some t → look (putD H f o.dst v x.1 x.2.1.env).1 (putD H f o.dst v x.1 x.2.1.env).2 t = look x.1 x.2.1.env t := fun v t ht => by
    cases hod : o.dst with
    | none => rfl
    | some d =>
      rw [look_putD hs, if_neg (fun e => ht (by rw [hod, e]))]
  rcases h with ⟨_, rfl⟩ | ⟨_, r, hr, hl⟩
  · exact ⟨hs.put, fun t ht => lk undefA t ht, fun _ => ⟨rfl, rfl⟩⟩
  · obtain ⟨res, st'⟩ := r
    cases res with
    | val v =>
      simp only [landA] at hl
      split at hl
      · rename_i hod
        simp only [Option.some.injEq] at hl
        subst hl
        refine ⟨hs, fun t ht => rfl, fun hE => ?_⟩
        unfold stepA at hr
        rw [stepV_still hE] at hr
        obtain ⟨a, ha⟩ := opA_still hE hr
        cases ha
        exact ⟨rfl, rfl⟩
      · rename_i d hod
        obtain ⟨q, hq, rfl⟩ := Option.map_eq_some_iff.1 hl
        refine ⟨hs.put, fun t ht => by have := lk q.1 t ht; rw [hod] at this; exact this, fun hE => ?_⟩
        unfold stepA at hr
        rw [stepV_still hE] at hr
        obtain ⟨a, ha⟩ := opA_still hE hr
        cases ha
        rw [if_neg (by simp [hd.nf hE d hod])] at hq
        simp only [Option.some.injEq] at hq
        subst hq
        exact ⟨rfl, rfl⟩
    | skip =>
      simp only [landA, Option.some.injEq] at hl
      subst hl
      refine ⟨hs.put, fun t ht => lk undefA t ht, fun hE => ?_⟩
      unfold stepA at hr
      rw [stepV_still hE] at hr
      obtain ⟨a, ha⟩ := opA_still hE hr
      cases ha
    | defer g as =>
      simp only [landA, Option.some.injEq] at hl
      subst hl
      refine ⟨hs.put, fun t ht => lk undefA t ht, fun hE => ?_⟩
      unfold stepA at hr
      rw [stepV_still hE] at hr
      obtain ⟨a, ha⟩ := opA_still hE hr
      cases ha
    | pan v => simp [landA] at hl

/-- A run of a region in its own order: m operations of it. -/
structure RunD (P : Program) (H : Hints) (callF : CallF) (f : FuncId) (base id : Nat) (ops : Array Oper) (xs : Nat → Sit) (m : Nat) : Prop where
  le : m ≤ ops.size
  step : ∀ j, j < m → ∃ o, ops[j]? = some o ∧ StepD P H callF f base ops o (xs j) (xs (j + 1))
  chk : drawOk H f id ops = true
  shp : EnvShape H f (xs 0).1 (xs 0).2.1.env

variable {xs : Nat → Sit} {m : Nat}

theorem RunD.shape (h : RunD P H callF f base id ops xs m) : ∀ j, j ≤ m → EnvShape H f (xs j).1 (xs j).2.1.env
  | 0, _ => h.shp
  | j + 1, hj => by
    obtain ⟨o, ho, hs⟩ := h.step j (by omega)
    exact (step_facts (D1.of h.chk ho) hs (h.shape j (by omega))).1
theorem RunD.facts (h : RunD P H callF f base id ops xs m) {j : Nat} {o : Oper} (hj : j < m) (ho : ops[j]? = some o) :
    StepD P H callF f base ops o (xs j) (xs (j + 1)) ∧ (∀ t, o.dst ≠ some t → (xs (j + 1)).look t = (xs j).look t) ∧ (isE o.op = false → (xs (j + 1)).objs = (xs j).objs ∧ (xs (j + 1)).defers = (xs j).defers) := by
  obtain ⟨o', ho', hs⟩ := h.step j hj
  rw [ho] at ho'; cases ho'
  exact ⟨hs, (step_facts (D1.of h.chk ho) hs (h.shape j (by omega))).2⟩

theorem RunD.same_look (h : RunD P H callF f base id ops xs m) {t : Nat} {i : Nat} : ∀ k, i + k ≤ m → (∀ j o, i ≤ j → j < i + k → ops[j]? = some o → o.dst ≠ some t) → (xs (i + k)).look t = (xs i).look t
  | 0, _, _ => rfl
  | k + 1, hk, hn => by
    obtain ⟨o, ho, _⟩ := h.step (i + k) (by omega)
    rw [← Nat.add_assoc, (h.facts (by omega) ho).2.1 t (hn (i + k) o (by omega) (by omega) ho)]
    exact h.same_look k (by omega) fun j o h1 h2 => hn j o h1 (by omega)
theorem RunD.look_to (h : RunD P H callF f base id ops xs m) {t i j : Nat} (hij : i ≤ j) (hj : j ≤ m) (hn : ∀ k o, i ≤ k → k < j → ops[k]? = some o → o.dst ≠ some t) : (xs j).look t = (xs i).look t := by
  have := h.same_look (t := t) (i := i) (j - i) (by omega) fun k o h1 h2 => hn k o h1 (by omega)
  rwa [show i + (j - i) = j by omega] at this
theorem RunD.same_st (h : RunD P H callF f base id ops xs m) {i : Nat} : ∀ k, i + k ≤ m → (∀ j o, i ≤ j → j < i + k → ops[j]? = some o → isE o.op = false) → (xs (i + k)).objs = (xs i).objs ∧ (xs (i + k)).defers = (xs i).defers
  | 0, _, _ => ⟨rfl, rfl⟩
  | k + 1, hk, hn => by
    obtain ⟨o, ho, _⟩ := h.step (i + k) (by omega)
    have h1 := (h.facts (by omega) ho).2.2 (hn (i + k) o (by omega) (by omega) ho)
    have h2 := h.same_st k (by omega) fun j o h1 h2 => hn j o h1 (by omega)
    rw [← Nat.add_assoc]
    exact ⟨h1.1.trans h2.1, h1.2.trans h2.2⟩
/-- Two places between which nothing is written bear the same objects. -/
theorem RunD.st_to (h : RunD P H callF f base id ops xs m) {i j : Nat} (hi : i ≤ m) (hj : j ≤ m) (hn : ∀ k o, ops[k]? = some o → isE o.op = true → (k < i ↔ k < j)) : (xs j).objs = (xs i).objs ∧ (xs j).defers = (xs i).defers := by
  rcases Nat.le_total i j with hij | hij
  · have := h.same_st (i := i) (j - i) (by omega) fun k o h1 h2 ho => by
      cases hE : isE o.op with
      | false => rfl
      | true => have := (hn k o ho hE).2 (by omega); omega
    rwa [show i + (j - i) = j by omega] at this
  · have := h.same_st (i := j) (i - j) (by omega) fun k o h1 h2 ho => by
      cases hE : isE o.op with
      | false => rfl
      | true => have := (hn k o ho hE).1 (by omega); omega
    rw [show j + (i - j) = i by omega] at this
    exact ⟨this.1.symm, this.2.symm⟩

/-- What a reader sees in the run is there at the end, too. -/
theorem RunD.read (h : RunD P H callF f base id ops xs m) {i k : Nat} {o : Oper} {t : Nat} (ho : ops[i]? = some o) (hik : i ≤ k) (hk : k ≤ m) (ht : t ∈ readsA H f ops o) : (xs k).look t = (xs i).look t :=
  h.look_to hik hk fun j oj h1 h2 hj e => by
    have := ((D1.of h.chk ho).rd j oj t hj e ht).1
    omega
theorem RunD.writes (h : RunD P H callF f base id ops xs m) {i k : Nat} {o : Oper} {t : Nat} (ho : ops[i]? = some o) (hd : o.dst = some t) (hik : i + 1 ≤ k) (hk : k ≤ m) : (xs k).look t = (xs (i + 1)).look t :=
  h.look_to hik hk fun j oj h1 h2 hj e => by
    have := (D1.of h.chk ho).wr j oj t hj e hd
    omega

theorem wantA_congr {loc env loc' env' : Env} {o : Oper} (h : ∀ t ∈ readsA H f ops o, look loc env t = look loc' env' t) : wantA ops loc env o = wantA ops loc' env' o := by
  unfold wantA
  cases hg : o.guard with
  | none => rfl
  | some q =>
    obtain ⟨j, want⟩ := q
    simp only
    cases hd : (ops[j]?).bind (·.dst) with
    | none => rfl
    | some d =>
      have : look loc env d = look loc' env' d := h d (by simp [readsA, hg, hd])
      simp only [Option.bind_some, this]
theorem evO_congr {loc env loc' env' : Env} {o : Oper} (h : ∀ t ∈ readsA H f ops o, look loc env t = look loc' env' t) : ∀ x ∈ looksA H f o, evO H loc env x = evO H loc' env' x := by
  intro x hx
  cases x with
  | tmp t => exact h t (List.mem_append_left _ (List.mem_filterMap.2 ⟨.tmp t, hx, rfl⟩))
  | _ => rfl

/-! ### The states' trace -/
def cntE (ops : Array Oper) (p : Nat) : Nat := (List.range p).countP fun i => eOf (ops[i]?)
theorem cntE_succ (p : Nat) : cntE ops (p + 1) = cntE ops p + if eOf (ops[p]?) then 1 else 0 := by
  unfold cntE
  rw [List.range_succ, List.countP_append, List.countP_singleton]
theorem cntE_mono {p q : Nat} (h : p ≤ q) : cntE ops p ≤ cntE ops q := by
  induction q with
  | zero => rw [show p = 0 by omega]; exact Nat.le_refl _
  | succ q ih =>
    by_cases e : p = q + 1
    · subst e; exact Nat.le_refl _
    · rw [cntE_succ]; have := ih (by omega); omega

def traceT (ops : Array Oper) (xs : Nat → Sit) (m : Nat) : List St :=
  (List.range m).foldl (fun tr j => match ops.toList[j]? with | some o => pushE o (xs (j + 1)).2.2 tr | none => tr) [(xs 0).2.2]
theorem traceT_succ (m : Nat) : traceT ops xs (m + 1) = (match ops.toList[m]? with | some o => pushE o (xs (m + 1)).2.2 (traceT ops xs m) | none => traceT ops xs m) := by
  simp only [traceT, List.range_succ, List.foldl_append, List.foldl_cons, List.foldl_nil]
theorem traceT_at (h : RunD P H callF f base id ops xs m) : ∀ k, k ≤ m → (traceT ops xs k).length = cntE ops k + 1 ∧ ∀ p, p ≤ k → (traceT ops xs k)[(traceT ops xs k).length - 1 - cntE ops p]? = some (xs p).objs
  | 0, _ => ⟨rfl, fun p hp => by
      have : p = 0 := by omega
      subst this; rfl⟩
  | k + 1, hk => by
    obtain ⟨h1, h2⟩ := traceT_at h k (by omega)
    obtain ⟨o, ho, _⟩ := h.step k (by omega)
    have ho' : ops.toList[k]? = some o := by simpa using ho
    have hf := h.facts (by omega) ho
    rw [traceT_succ, ho']
    have hs := cntE_succ (ops := ops) k
    rw [ho] at hs
    simp only [eOf] at hs
    cases hE : isE o.op with
    | false =>
      simp only [pushE, hE, Bool.false_eq_true, if_false] at hs ⊢
      refine ⟨by simp [h1, hs], fun p hp => ?_⟩
      by_cases e : p = k + 1
      · subst e
        rw [hs, Nat.add_zero, h2 k (Nat.le_refl _), (hf.2.2 hE).1]
      · exact h2 p (by omega)
    | true =>
      simp only [pushE, hE, if_true] at hs ⊢
      refine ⟨by simp [h1, hs], fun p hp => ?_⟩
      by_cases e : p = k + 1
      · subst e
        simp [h1, hs]
      · have hm := cntE_mono (ops := ops) (show p ≤ k by omega)
        rw [List.length_cons, show (traceT ops xs k).length + 1 - 1 - cntE ops p = ((traceT ops xs k).length - 1 - cntE ops p) + 1 by omega, List.getElem?_cons_succ]
        exact h2 p (by omega)
end
end Go.Abs

/- The interpreter by value: regions that draw, in any order. -/
namespace Go.Abs
open Go Go.RowKit
set_option linter.unusedVariables false
set_option linter.unusedSimpArgs false

section
variable {P : Program} {H : Hints} {W : World} {bs : Nat} {σ σ' σ'' : Gh} {st : St} {w w' : World} {f : FuncId} {nt base : Nat} {callF : CallF} {ops : Array Oper} {id : Nat} {xs : Nat → Sit} {m p : Nat} {L : Nat → Prop} {a a' : Act}

structure Inv (P : Program) (W : World) (bs nt : Nat) (ops : Array Oper) (xs : Nat → Sit) (m p : Nat) (L : Nat → Prop) (σ : Gh) (a : Act) (w : World) : Prop where
  closed : Closed ops L
  lt : ∀ j, L j → j < m
  ple : p ≤ m
  pos : ∀ (i : Nat) (o : Oper), ops[i]? = some o → isE o.op = true → (L i ↔ i < p)
  wf : WF P W bs σ (xs p).objs w
  defs : DefsOk P σ a.defers (xs p).defers
  size : nt ≤ a.tmps.size
  done : ∀ (j : Nat) (o : Oper) (t : Nat) (v : AV), L j → ops[j]? = some o → o.dst = some t → (xs (j + 1)).look t = some v → Rep P σ (a.tmps.getD t undef) v
  old : ∀ (t : Nat) (v : AV), (∀ (j : Nat) (o : Oper), L j → ops[j]? = some o → o.dst ≠ some t) → (xs 0).look t = some v → Rep P σ (a.tmps.getD t undef) v

/-- What binds an operation is listed. -/
def Bound (L : Nat → Prop) (o : Oper) : Prop := ∀ e ∈ o.after.toList, Region.binds .any e = true → L e.on

theorem Inv.anc (h : Inv P W bs nt ops xs m p L σ a w) {i : Nat} {o : Oper} (ho : ops[i]? = some o) (hb : Bound L o) {k : Nat} (hk : Bit ops i k) : L k := anc_listed h.closed i o ho hb k hk
theorem Inv.bound (h : Inv P W bs nt ops xs m p L σ a w) {i : Nat} {o : Oper} (ho : ops[i]? = some o) (hi : L i) : Bound L o := h.closed i o hi ho

theorem Inv.read (h : Inv P W bs nt ops xs m p L σ a w) (hR : RunD P H callF f base id ops xs m) {i : Nat} {o : Oper} (him : i ≤ m) (ho : ops[i]? = some o) (hb : Bound L o) {t : Nat} (ht : t ∈ readsA H f ops o) {v : AV}
    (hv : (xs i).look t = some v) : Rep P σ (a.tmps.getD t undef) v := by
  by_cases hw : ∃ (k : Nat) (ok : Oper), ops[k]? = some ok ∧ ok.dst = some t
  · obtain ⟨k, ok, hk, hkt⟩ := hw
    obtain ⟨h1, h2⟩ := (D1.of hR.chk ho).rd k ok t hk hkt ht
    have hL := h.anc ho hb h2
    refine h.done k ok t v hL hk hkt ?_
    rw [← hR.writes hk hkt (show k + 1 ≤ i from h1) him]; exact hv
  · refine h.old t v (fun j o hj hjo e => hw ⟨j, o, hjo, e⟩) ?_
    rw [← hR.look_to (Nat.zero_le i) him fun k o _ _ hk e => hw ⟨k, o, hk, e⟩]; exact hv

/-- At an operation that writes, the run stands where it stood. -/
theorem Inv.posE (h : Inv P W bs nt ops xs m p L σ a w) (hR : RunD P H callF f base id ops xs m) {i : Nat} {o : Oper} (ho : ops[i]? = some o) (hE : isE o.op = true) (hb : Bound L o) (hn : ¬ L i) :
    ∀ (k : Nat) (ok : Oper), ops[k]? = some ok → isE ok.op = true → (k < p ↔ k < i) := by
  intro k ok hk hkE
  rw [← h.pos k ok hk hkE]
  constructor
  · intro hL
    rcases Nat.lt_trichotomy k i with h1 | h1 | h1
    · exact h1
    · subst h1; exact absurd hL hn
    · exact absurd (h.anc hk (h.bound hk hL) ((D1.of hR.chk hk).ee hkE i o ho hE h1)) hn
  · intro hki
    exact h.anc ho hb ((D1.of hR.chk ho).ee hE k ok hk hkE hki)

theorem Inv.put (h : Inv P W bs nt ops xs m p L σ a w) (hR : RunD P H callF f base id ops xs m) (hl : σ.Le σ') {i : Nat} {o : Oper} {v : Value} {p' : Nat} (ho : ops[i]? = some o) (him : i < m) (hb : Bound L o) (hn : ¬ L i)
    (hd : ∀ d, o.dst = some d → d < nt) (hwf : WF P W bs σ' (xs p').objs w') (hp : p' = if isE o.op then i + 1 else p) (hdefs : DefsOk P σ' a'.defers (xs p').defers) (htm : a'.tmps = (a.put o.dst v).tmps)
    (hv : ∀ d u, o.dst = some d → (xs (i + 1)).look d = some u → Rep P σ' v u) : Inv P W bs nt ops xs m p' (fun j => L j ∨ j = i) σ' a' w' := by
  have hD := D1.of hR.chk ho
  have hget : ∀ t, o.dst ≠ some t → a'.tmps.getD t undef = a.tmps.getD t undef := fun t ht => by
    rw [htm]
    cases hod : o.dst with
    | none => rfl
    | some d =>
      have hdn := hd d hod
      show (a.tmps.setIfInBounds d v).getD t undef = _
      rw [getD_set _ _ _ _ (Nat.lt_of_lt_of_le hdn h.size), if_neg (fun e => ht (by rw [hod, e]))]
  refine ⟨fun j oj hj hjo e he hbd => ?_, fun j hj => ?_, ?_, fun k ok hk hkE => ?_, hwf, hdefs, ?_, fun j oj t u hj hjo ht hu => ?_, fun t u hnw hu => ?_⟩
  · rcases hj with hj | rfl
    · exact .inl (h.closed j oj hj hjo e he hbd)
    · rw [ho] at hjo; cases hjo
      exact .inl (hb e he hbd)
  · rcases hj with hj | rfl
    · exact h.lt j hj
    · exact him
  · rw [hp]; split
    · omega
    · exact h.ple
  · rw [hp]
    split
    · rename_i hE
      have := h.posE hR ho hE hb hn k ok hk hkE
      rw [h.pos k ok hk hkE, this]
      constructor
      · rintro (h1 | rfl) <;> omega
      · intro h1
        by_cases e : k = i
        · exact .inr e
        · exact .inl (by omega)
    · rename_i hE
      rw [h.pos k ok hk hkE]
      constructor
      · rintro (h1 | rfl)
        · exact h1
        · rw [ho] at hk; cases hk; exact absurd hkE hE
      · exact .inl
  · rw [htm]
    cases o.dst with
    | none => exact h.size
    | some d => show nt ≤ (a.tmps.setIfInBounds d v).size; simpa using h.size
  · rcases hj with hj | rfl
    · rw [hget t fun e => ?_]
      · exact (h.done j oj t u hj hjo ht hu).mono hl
      · have := hD.wr j oj t hjo ht e
        subst this; exact hn hj
    · rw [ho] at hjo; cases hjo
      have hdn := hd t ht
      rw [htm, ht]
      show Rep P σ' ((a.tmps.setIfInBounds t v).getD t undef) u
      rw [getD_set _ _ _ _ (Nat.lt_of_lt_of_le hdn h.size), if_pos rfl]
      exact hv t u ht hu
  · rw [hget t (hnw i o (.inr rfl) ho)]
    exact (h.old t u (fun j oj hj => hnw j oj (.inl hj)) hu).mono hl

theorem want_of {a : Act} {loc env : Env} {o : Oper} {b : Bool} (h : ∀ (t : Nat) (v : AV), t ∈ readsA H f ops o → look loc env t = some v → Rep P σ (a.tmps.getD t undef) v) (hw : wantA ops loc env o = some b) : Region.wanted o (yielded ops a.tmps) = b := by
  unfold wantA at hw
  unfold Region.wanted
  split at hw
  · rename_i hg
    cases hw
    rw [hg]
  · rename_i j want hg
    obtain ⟨d, hd, h2⟩ := Option.bind_eq_some_iff.1 hw
    obtain ⟨v, hv, h3⟩ := Option.bind_eq_some_iff.1 h2
    have hr := h d v (by simp [readsA, hg, hd]) hv
    rw [hg]
    unfold yielded
    simp only [hd, Option.bind_some]
    split at h3
    · rename_i b'
      cases h3
      generalize hx : a.tmps.getD d undef = x at hr
      cases hr
      have : a.tmps[d]? = some (.bool b') := by
        rw [Array.getD_eq_getD_getElem?] at hx
        cases he : a.tmps[d]? with
        | none => rw [he] at hx; simp [undef] at hx
        | some y => rw [he] at hx; simp at hx; rw [hx]
      rw [this]
      cases b' <;> cases want <;> rfl
    · cases h3
      generalize hx : a.tmps.getD d undef = x at hr
      cases hr with
      | tup cs as hs hR =>
      have : a.tmps[d]? = none ∨ a.tmps[d]? = some (.tuple cs) := by
        rw [Array.getD_eq_getD_getElem?] at hx
        cases he : a.tmps[d]? with
        | none => exact .inl rfl
        | some y => rw [he] at hx; simp at hx; rw [hx]; exact .inr rfl
      rcases this with e | e <;> rw [e] <;> rfl
    · simp at h3

open Classical in
/-- The operands' values as an operation sees them, no others. -/
noncomputable def evOf (H : Hints) (f : FuncId) (o : Oper) (x : Sit) (y : Operand) : Option AV := if y ∈ looksA H f o then evO H x.1 x.2.1.env y else none
theorem evOf_eq {o : Oper} {x : Sit} : ∀ y ∈ looksA H f o, evOf H f o x y = evO H x.1 x.2.1.env y := fun y hy => by unfold evOf; rw [if_pos hy]
theorem evOf_rep {o : Oper} {x : Sit} (hg : GlobOk P H σ) (h : ∀ (t : Nat) (v : AV), t ∈ readsA H f ops o → x.look t = some v → Rep P σ (a.tmps.getD t undef) v) : ∀ y v, evOf H f o x y = some v → Rep P σ (a.eval y) v := by
  intro y v hv
  unfold evOf at hv
  split at hv
  · rename_i hy
    cases y with
    | tmp t => exact h t v (List.mem_append_left _ (List.mem_filterMap.2 ⟨.tmp t, hy, rfl⟩)) hv
    | const u => exact ofVal_rep 6 u v hv
    | global g =>
      obtain ⟨row, hr, rfl⟩ := Option.map_eq_some_iff.1 hv
      exact hg g row hr
    | func g =>
      simp only [evO, Option.some.injEq] at hv
      subst hv
      exact .fn g #[] [] rfl (by simp)
  · simp at hv

/-- The states' count: of E-operations those listed are the first. -/
theorem cnt_eq (h : Inv P W bs nt ops xs m p L σ a w) (hm : m ≤ ops.size) : ∀ (q : Nat → Bool), (∀ i o, ops[i]? = some o → isE o.op = true → i < p → q i = true) →
    cntE ops p ≤ (List.range ops.size).countP fun i => eOf (ops[i]?) && q i := by
  intro q hq
  have hsub : (List.range p).Sublist (List.range ops.size) := List.range_sublist.2 (Nat.le_trans h.ple hm)
  refine Nat.le_trans ?_ (hsub.countP_le)
  unfold cntE
  refine List.countP_mono_left fun i hi he => ?_
  have hip := List.mem_range.1 hi
  simp only [Bool.and_eq_true]
  refine ⟨he, ?_⟩
  cases ho : ops[i]? with
  | none => rw [ho] at he; simp [eOf] at he
  | some o => rw [ho] at he; exact hq i o ho he hip
theorem cnt_ge (h : Inv P W bs nt ops xs m p L σ a w) (hm : m ≤ ops.size) : ∀ (q : Nat → Bool), (∀ i o, ops[i]? = some o → isE o.op = true → q i = true → i < p) →
    ((List.range ops.size).countP fun i => eOf (ops[i]?) && q i) ≤ cntE ops p := by
  intro q hq
  have hp : p ≤ ops.size := Nat.le_trans h.ple hm
  have key : ∀ n, p ≤ n → n ≤ ops.size → ((List.range n).countP fun i => eOf (ops[i]?) && q i) ≤ cntE ops p := by
    intro n
    induction n with
    | zero => intro h1 _; rw [show p = 0 by omega]; exact Nat.le_refl _
    | succ n ih =>
      intro h1 h2
      by_cases e : p = n + 1
      · subst e
        unfold cntE
        refine List.countP_mono_left fun i hi he => ?_
        simp only [Bool.and_eq_true] at he
        exact he.1
      · rw [List.range_succ, List.countP_append, List.countP_singleton]
        have hz : (eOf (ops[n]?) && q n) = false := by
          cases hc : (eOf (ops[n]?) && q n) with
          | false => rfl
          | true =>
            simp only [Bool.and_eq_true] at hc
            cases ho : ops[n]? with
            | none => rw [ho] at hc; simp [eOf] at hc
            | some o =>
              rw [ho] at hc
              have := hq n o ho hc.1 hc.2
              omega
        rw [hz]
        have := ih (by omega) (by omega)
        simpa using this
  exact key ops.size hp (Nat.le_refl _)
end
end Go.Abs

/- The interpreter by value: regions that draw: all orders come to what the region's own order comes to. -/
namespace Go.Abs
open Go Go.RowKit
set_option linter.unusedVariables false
set_option linter.unusedSimpArgs false

section
variable {P : Program} {H : Hints} {W : World} {bs : Nat} {σ σ' σ'' : Gh} {st : St} {w w' : World} {f : FuncId} {nt base : Nat} {callF : CallF} {ops : Array Oper} {id : Nat} {xs : Nat → Sit} {m p : Nat} {L : Nat → Prop} {a a' : Act}

/-- What must come ahead stands ahead. -/
theorem bit_lt (hc : drawOk H f id ops = true) {j i : Nat} {o : Oper} (ho : ops[j]? = some o) (hb : Bit ops j i) : i < j :=
  anc_listed (L := fun k => k < j) (fun k ok hk hok e he hbd => by have := (D1.of hc hok).low e he hbd; omega) j o ho (fun e he hbd => (D1.of hc ho).low e he hbd) i hb

theorem stillOp_congr {ev ev' : Operand → Option AV} {op : Op} (h : ∀ x ∈ op.operands.toList, ev x = ev' x) : stillOp ev op = stillOp ev' op := by
  cases op <;> try rfl
  case slice t x lo hi mx => simp only [stillOp]; rw [h x (by simp [Op.operands])]
  case indexAddr t x i => simp only [stillOp]; rw [h x (by simp [Op.operands])]
  case load t a => simp only [stillOp]; rw [h a (by simp [Op.operands])]
  case call c =>
    simp only [stillOp]
    cases hc : c.callee with
    | builtin b =>
      cases b <;> try rfl
      simp only
      cases ha : c.args.toList with
      | nil => rfl
      | cons x r =>
        cases r with
        | nil =>
          have : x ∈ c.args := by
            have : x ∈ c.args.toList := by rw [ha]; simp
            simpa using this
          simp only [h x (by simp [Op.operands, Call.operands, this])]
        | cons y r => rfl
    | _ => rfl

theorem still_elsewhere (h : Inv P W bs nt ops xs m p L σ a w) (hR : RunD P H callF f base id ops xs m) {i : Nat} {o : Oper} (ho : ops[i]? = some o) (him : i < m) (hb : Bound L o) (hn : ¬ L i) (hE : isE o.op = false) {x : AV}
    (hw : wantA ops (xs i).1 (xs i).2.1.env o = some true) (hst : stepA P H callF f base o (xs i).1 (xs i).2.1.env (xs i).objs = some (.val x, (xs i).objs)) (hx : ∀ d, o.dst = some d → (xs (i + 1)).look d = some x)
    (hrc : ∀ x ∈ H.recheck f id, again1 P H f base ops (xs m).1 (xs m).2.1.env (traceT ops xs m) m x = true) :
    stepV P H callF f base o (evOf H f o (xs i)) (xs p).objs = some (.val x, (xs p).objs) := by
  unfold stepA at hst
  rw [stepV_still hE] at hst ⊢
  have hcg : ∀ s, opA P H f (evOf H f o (xs i)) s base o.dst o.op = opA P H f (evO H (xs i).1 (xs i).2.1.env) s base o.dst o.op := fun s => opA_congr (evOf_eq (x := xs i))
  rw [hcg]
  cases hs : seesSt o.op with
  | false => exact opA_blind hE hs hst
  | true =>
    rcases (D1.of hR.chk ho).see hE hs with hcmp | ⟨x', hx', h1, h2, h3⟩
    · have := (hR.st_to (i := p) (j := i) h.ple (by omega) fun k ok hk hkE => by
        rw [← h.pos k ok hk hkE]
        constructor
        · intro hL
          rcases hcmp k ok hk hkE with hb' | hb'
          · exact bit_lt hR.chk ho hb'
          · exact absurd (h.anc hk (h.bound hk hL) hb') hn
        · intro hki
          rcases hcmp k ok hk hkE with hb' | hb'
          · exact h.anc ho hb hb'
          · have := bit_lt hR.chk hk hb'; omega).1
      rw [← this]; exact hst
    · have ha := hrc x' hx'
      unfold again1 at ha
      rw [if_neg (by omega), h1, ho] at ha
      simp only at ha
      have hw' : wantA ops (xs m).1 (xs m).2.1.env o = some true := by
        rw [← hw]; exact wantA_congr fun t ht => hR.read ho (Nat.le_of_lt him) (Nat.le_refl m) ht
      rw [hw'] at ha
      simp only at ha
      by_cases hso : stillOp (evO H (xs m).1 (xs m).2.1.env) o.op = true
      · have hev0 : stillOp (evO H (xs i).1 (xs i).2.1.env) o.op = true := by
          rw [← hso]
          exact stillOp_congr fun y hy => (evO_congr fun t ht => hR.read ho (Nat.le_of_lt him) (Nat.le_refl m) ht) y (List.mem_append_left _ hy) |>.symm
        exact opA_still2 hE hev0 hst
      rw [if_neg hso] at ha
      cases hod : o.dst with
      | none => rw [hod] at ha; simp at ha
      | some d =>
        have hl : look (xs m).1 (xs m).2.1.env d = some x := by
          rw [← hx d hod]; exact hR.writes ho hod him (Nat.le_refl m)
        rw [hod] at ha
        simp only [Option.bind_some, hl] at ha
        obtain ⟨t1, t2⟩ := traceT_at hR m (Nat.le_refl m)
        have hcp : cntE ops p ≤ cntE ops m := cntE_mono h.ple
        have ha2 := List.all_eq_true.1 ha (cntE ops p) (List.mem_range.2 (by omega))
        have hlo : x'.2.1 ≤ cntE ops p := Nat.le_trans h2 (cnt_ge h hR.le _ fun k ok hk hkE hbit => (h.pos k ok hk hkE).1 (h.anc ho hb hbit))
        have hhi : cntE ops p ≤ x'.2.2 := by
          refine Nat.le_trans (cnt_eq h hR.le (fun k => !((ancs ops).getD k 0).testBit i) fun k ok hk hkE hkp => ?_) h3
          simp only [Bool.not_eq_true']
          cases hbit : ((ancs ops).getD k 0).testBit i with
          | false => rfl
          | true => exact absurd (h.anc hk (h.bound hk ((h.pos k ok hk hkE).2 hkp)) hbit) hn
        rw [if_pos ⟨hlo, hhi⟩, t2 p h.ple] at ha2
        simp only at ha2
        have hev : opA P H f (evO H (xs m).1 (xs m).2.1.env) (xs p).objs base o.dst o.op = opA P H f (evO H (xs i).1 (xs i).2.1.env) (xs p).objs base o.dst o.op :=
          opA_congr (evO_congr fun t ht => hR.read ho (Nat.le_of_lt him) (Nat.le_refl m) ht)
        rw [hod] at hev
        rw [hev] at ha2
        split at ha2
        · rename_i v' s' hop
          have hop' : opA P H f (evO H (xs i).1 (xs i).2.1.env) (xs p).objs base o.dst o.op = some (.val v', s') := by rw [hod]; exact hop
          obtain ⟨a', ha'⟩ := opA_still hE hop'
          cases ha'
          rw [hop, AV.beq_eq _ _ ha2]
        · simp at ha2

/-- How a region's run ended. -/
def EndD (P : Program) (H : Hints) (callF : CallF) (f : FuncId) (base id : Nat) (ops : Array Oper) (xs : Nat → Sit) (m : Nat) (r : AX × Fr × St) : Prop :=
  (r.1 = .normal ∧ m = ops.size ∧ r.2.1 = (xs m).2.1 ∧ r.2.2 = (xs m).objs) ∨
  ∃ v o, r.1 = .panic v ∧ ops[m]? = some o ∧ wantA ops (xs m).1 (xs m).2.1.env o = some true ∧ stepA P H callF f base o (xs m).1 (xs m).2.1.env (xs m).objs = some (.pan v, r.2.2) ∧ H.pok f id = true ∧
    r.2.1 = { (xs m).2.1 with env := (xs 0).2.1.env.filter fun p => !(ops.toList.any fun o => o.dst == some p.1) }

theorem mem_ready {listed : Array Bool} {i : Nat} (hs : listed.size = ops.size) : i ∈ Region.ready .any ops listed ↔ ∃ o, ops[i]? = some o ∧ ¬ listed.getD i false = true ∧ Bound (fun j => listed.getD j false = true) o := by
  unfold Region.ready
  rw [List.mem_filter, List.mem_range]
  constructor
  · rintro ⟨hi, h⟩
    simp only [Bool.and_eq_true, Bool.not_eq_true'] at h
    refine ⟨ops[i], by simp [hi], ?_, fun e he hb => ?_⟩
    · have := h.1
      rw [Array.getD_eq_getD_getElem?] at this ⊢
      rw [Array.getElem?_eq_getElem (by omega)] at this ⊢
      simpa using this
    · have h2 := h.2
      rw [Array.getElem?_eq_getElem hi] at h2
      simp only [Option.map_some, Option.getD_some, Array.all_eq_true_iff_forall_mem] at h2
      have := h2 e (by simpa using he)
      simpa [hb] using this
  · rintro ⟨o, ho, hn, hb⟩
    have hi := (Array.getElem?_eq_some_iff.1 ho).1
    refine ⟨hi, ?_⟩
    simp only [Bool.and_eq_true, Bool.not_eq_true']
    refine ⟨?_, ?_⟩
    · rw [Array.getD_eq_getD_getElem?] at hn ⊢
      rw [Array.getElem?_eq_getElem (by omega)] at hn ⊢
      simpa using hn
    · rw [ho]
      simp only [Option.map_some, Option.getD_some, Array.all_eq_true_iff_forall_mem]
      intro e he
      cases hbd : Region.binds .any e with
      | false => rfl
      | true => simpa using hb e (by simpa using he) hbd

theorem listed_set {listed : Array Bool} {i : Nat} (hi : i < listed.size) : (fun j => (listed.setIfInBounds i true).getD j false = true) = (fun j => listed.getD j false = true ∨ j = i) := by
  funext j
  simp only [Array.getD_eq_getD_getElem?]
  by_cases e : j = i
  · subst e
    simp [hi]
  · rw [Array.getElem?_setIfInBounds_ne (fun x => e x.symm)]
    simp [e]

theorem all_listed (hc : drawOk H f id ops = true) {listed : Array Bool} (hs : listed.size = ops.size) (hr : Region.ready .any ops listed = []) : ∀ i, i < ops.size → listed.getD i false = true := by
  intro i
  induction i using Nat.strongRecOn with
  | _ i ih =>
    intro hi
    by_cases hl : listed.getD i false = true
    · exact hl
    · exfalso
      have ho : ops[i]? = some ops[i] := by simp [hi]
      have : i ∈ Region.ready .any ops listed := (mem_ready hs).2 ⟨ops[i], ho, hl, fun e he hb => by
        have := (D1.of hc ho).low e he hb
        exact ih e.on this (by omega)⟩
      rw [hr] at this
      simp at this

variable {σ0 : Gh} {r : AX × Fr × St}

theorem draw_end (h : Inv P W bs nt ops xs m p L σ a w) (hR : RunD P H callF f base id ops xs m) (hl : σ0.Le σ) (hend : EndD P H callF f base id ops xs m r) (hall : ∀ i, i < ops.size → L i) : PostOk P H W bs f nt σ0 r .normal a w := by
  rcases hend with ⟨h1, h2, h3, h4⟩ | ⟨v, o, _, ho, _⟩
  · obtain ⟨e1, e2⟩ := hR.st_to (i := p) (j := m) h.ple (Nat.le_refl m) fun k ok hk hkE => by
      have hkL := hall k (Array.getElem?_eq_some_iff.1 hk).1
      exact ⟨fun _ => h.lt k hkL, fun _ => (h.pos k ok hk hkE).1 hkL⟩
    refine ⟨σ, hl, by rw [h4, e1]; exact h.wf, ⟨⟨h.size, fun t u hu => ?_, fun t u hu => by simp [Env.get] at hu, ?_, ?_⟩, ?_⟩, by rw [h1]; trivial⟩
    · have hu' : Env.get (xs m).2.1.env t = some u := by rw [← h3]; simpa [look, Env.get] using hu
      have hlk : (xs m).look t = some u := by
        show look _ _ _ = _
        unfold look
        cases hloc : Env.get (xs m).1 t with
        | none => exact hu'
        | some u2 =>
          have q1 := (hR.shape m (Nat.le_refl m)).loc t u2 hloc
          have q2 := (hR.shape m (Nat.le_refl m)).kept t u hu'
          rw [q1] at q2; simp at q2
      by_cases hwr : ∃ (k : Nat) (ok : Oper), ops[k]? = some ok ∧ ok.dst = some t
      · obtain ⟨k, ok, hk, hkt⟩ := hwr
        have hkL := hall k (Array.getElem?_eq_some_iff.1 hk).1
        refine h.done k ok t u hkL hk hkt ?_
        rw [← hR.writes hk hkt (h.lt k hkL) (Nat.le_refl m)]; exact hlk
      · refine h.old t u (fun j oj _ hj e => hwr ⟨j, oj, hj, e⟩) ?_
        rw [← hR.look_to (Nat.zero_le m) (Nat.le_refl m) fun k ok _ _ hk e => hwr ⟨k, ok, hk, e⟩]; exact hlk
    · rw [h3]; exact (hR.shape m (Nat.le_refl m)).kept
    · rw [h3]; exact (hR.shape m (Nat.le_refl m)).srt
    · rw [h3, show (xs m).2.1.defers = (xs p).defers from e2]; exact h.defs
  · have := h.lt m (hall m (Array.getElem?_eq_some_iff.1 ho).1)
    omega

theorem draw_any (hX : ExtOk P H) (hC : CallOk P H W bs callF) (hdst : ∀ (i : Nat) o d, ops[i]? = some o → o.dst = some d → d < nt) (hR : RunD P H callF f base id ops xs m) (hloc : (xs 0).1 = [])
    (hrc : ∀ x ∈ H.recheck f id, again1 P H f base ops (xs m).1 (xs m).2.1.env (traceT ops xs m) m x = true) (hend : EndD P H callF f base id ops xs m r) :
    ∀ (fuel : Nat) (listed : Array Bool) (a : Act) (w : World) (σ : Gh) (p : Nat), listed.size = ops.size → listed.toList.count false ≤ fuel → Inv P W bs nt ops xs m p (fun j => listed.getD j false = true) σ a w → σ0.Le σ → GlobOk P H σ →
      wpAny P .any ops (PostOk P H W bs f nt σ0 r) fuel listed a w := by
  intro fuel
  induction fuel with
  | zero =>
    intro listed a w σ p hs hf h hl hg
    have hno : Region.ready .any ops listed = [] := by
      refine List.eq_nil_iff_forall_not_mem.2 fun i hi => ?_
      obtain ⟨o, ho, hn, _⟩ := (mem_ready hs).1 hi
      have hi' : i < listed.size := by rw [hs]; exact (Array.getElem?_eq_some_iff.1 ho).1
      have : false ∈ listed.toList := by
        rw [Array.getD_eq_getD_getElem?, Array.getElem?_eq_getElem hi'] at hn
        have e : listed[i] = false := by simpa using hn
        rw [← e]; simp
      have := List.count_pos_iff.2 this
      omega
    exact ⟨hno, draw_end h hR hl hend (all_listed hR.chk hs hno)⟩
  | succ fuel ih =>
    intro listed a w σ p hs hf h hl hg
    refine ⟨fun hno => draw_end h hR hl hend (all_listed hR.chk hs hno), fun i hi => ?_⟩
    obtain ⟨o, ho, hn, hb⟩ := (mem_ready hs).1 hi
    have hD := D1.of hR.chk ho
    have hi' : i < listed.size := by rw [hs]; exact (Array.getElem?_eq_some_iff.1 ho).1
    have hfuel : (listed.setIfInBounds i true).toList.count false ≤ fuel := by
      have e : listed.toList[i]'(by simpa using hi') = false := by
        rw [Array.getD_eq_getD_getElem?, Array.getElem?_eq_getElem hi'] at hn
        simpa using hn
      rw [Array.toList_setIfInBounds, List.count_set (by simpa using hi')]
      rw [e]
      have : 0 < listed.toList.count false := List.count_pos_iff.2 (by rw [← e]; exact List.getElem_mem _)
      simp only [BEq.rfl, if_true, show (true == false) = false from rfl, Bool.false_eq_true, if_false]
      omega
    have next : ∀ {a' : Act} {w' : World} {σ' : Gh} {p' : Nat}, Inv P W bs nt ops xs m p' (fun j => listed.getD j false = true ∨ j = i) σ' a' w' → σ.Le σ' → wpAny P .any ops (PostOk P H W bs f nt σ0 r) fuel (listed.setIfInBounds i true) a' w' :=
      fun hinv hle => ih _ _ _ _ _ (by simpa using hs) hfuel (by rw [listed_set hi']; exact hinv) (hl.trans hle) (hg.mono hle)
    unfold wpOp
    rw [ho]
    simp only
    have hrd : ∀ (him : i ≤ m) (t : Nat) (v : AV), t ∈ readsA H f ops o → (xs i).look t = some v → Rep P σ (a.tmps.getD t undef) v := fun him t v ht hv => h.read hR him ho hb ht hv
    have hwf : isE o.op = true → i ≤ m → (xs i).objs = (xs p).objs ∧ (xs i).defers = (xs p).defers := fun hE him =>
      hR.st_to (i := p) (j := i) h.ple him (h.posE hR ho hE hb hn)
    rcases Nat.lt_trichotomy i m with him | him | him
    · obtain ⟨hstep, _, hstill⟩ := hR.facts him ho
      have hshape := hR.shape i (Nat.le_of_lt him)
      rcases hstep with ⟨hw, hy⟩ | ⟨hw, q, hq, hland⟩
      · rw [want_of (hrd (Nat.le_of_lt him)) hw]
        simp only [Bool.false_eq_true, if_false]
        have hobj : (xs (i + 1)).objs = (xs i).objs ∧ (xs (i + 1)).defers = (xs i).defers := by rw [hy]; exact ⟨rfl, rfl⟩
        refine next (p' := if isE o.op then i + 1 else p) (h.put hR (.refl σ) ho him hb hn (hdst i o · ho) ?_ rfl ?_ rfl fun d u hd hu => ?_) (.refl σ)
        · split
          · rename_i hE; rw [hobj.1, (hwf hE (Nat.le_of_lt him)).1]; exact h.wf
          · exact h.wf
        · have : (a.put o.dst undef).defers = a.defers := by cases o.dst <;> rfl
          rw [this]
          split
          · rename_i hE; rw [hobj.2, (hwf hE (Nat.le_of_lt him)).2]; exact h.defs
          · exact h.defs
        · rw [hy] at hu
          have hu' : look (putD H f o.dst undefA (xs i).1 (xs i).2.1.env).1 (putD H f o.dst undefA (xs i).1 (xs i).2.1.env).2 d = some u := hu
          rw [hd, look_putD hshape, if_pos rfl] at hu'
          cases hu'
          exact undef_rep
      · rw [want_of (hrd (Nat.le_of_lt him)) hw]
        simp only [if_true]
        left
        -- what the operation comes to, over the objects here
        have hland' : ∀ (d : Nat) (x : AV), o.dst = some d → q.1 = .val x → isE o.op = false → (xs (i + 1)).look d = some x := fun d x hd hqx hE => by
          rw [hqx] at hland
          simp only [landA, hd, hD.nf hE d hd, Bool.false_eq_true, if_false, Option.map_some, Option.some.injEq] at hland
          rw [← hland]
          show look _ _ _ = _
          rw [look_putD hshape, if_pos rfl]
        by_cases hE : isE o.op = true
        · obtain ⟨w1, w2⟩ := hwf hE (Nat.le_of_lt him)
          have hq' : stepV P H callF f base o (evOf H f o (xs i)) (xs p).objs = some q := by
            rw [stepV_congr (evOf_eq (x := xs i)), ← w1]; exact hq
          refine sim_stepV hX hC h.wf hg (evOf_rep hg (hrd (Nat.le_of_lt him))) hq' (fun v x w' σ' e1 e2 e3 e4 => ?_) (fun w' σ' e1 e2 e3 => ?_) (fun g as d w' σ' e1 e2 e3 e4 => ?_) (fun v x w' σ' e1 e2 e3 e4 => ?_)
          · rw [e1] at hland
            have hdf : (a.put o.dst v).defers = a.defers := by cases o.dst <;> rfl
            cases hod : o.dst with
            | none =>
              simp only [landA, hod, Option.some.injEq] at hland
              have := h.put (a' := a.put o.dst v) (v := v) (w' := w') (σ' := σ') (p' := i + 1) hR e2 ho him hb hn (hdst i o · ho) (by rw [← hland]; exact e3) (by rw [if_pos hE]) (by
                rw [hdf, ← hland]; show DefsOk P σ' a.defers (xs i).2.1.defers; rw [show (xs i).2.1.defers = (xs p).defers from w2]; exact h.defs.mono e2) rfl (fun d u hd hu => by rw [hod] at hd; cases hd)
              rw [hod] at this
              exact next this e2
            | some d =>
              simp only [landA, hod] at hland
              obtain ⟨z, hz, hzy⟩ := Option.map_eq_some_iff.1 hland
              have : ∃ σ'', σ'.Le σ'' ∧ WF P W bs σ'' z.2 w' ∧ Rep P σ'' v z.1 := by
                split at hz
                · exact sim_freeze e3 e4 hz
                · simp only [Option.some.injEq] at hz; subst hz; exact ⟨σ', .refl _, e3, e4⟩
              obtain ⟨σ'', k1, k2, k3⟩ := this
              have := h.put (a' := a.put o.dst v) (v := v) (w' := w') (σ' := σ'') (p' := i + 1) hR (e2.trans k1) ho him hb hn (hdst i o · ho) (by rw [← hzy]; exact k2) (by rw [if_pos hE]) (by
                rw [hdf, ← hzy]; show DefsOk P σ'' a.defers (xs i).2.1.defers; rw [show (xs i).2.1.defers = (xs p).defers from w2]; exact h.defs.mono (e2.trans k1)) rfl (fun d' u hd hu => by
                  rw [hod] at hd; cases hd
                  rw [← hzy] at hu
                  have hu' : look (putD H f (some d) z.1 (xs i).1 (xs i).2.1.env).1 (putD H f (some d) z.1 (xs i).1 (xs i).2.1.env).2 d = some u := hu
                  rw [look_putD hshape, if_pos rfl] at hu'
                  cases hu'
                  exact k3)
              rw [hod] at this
              exact next this (e2.trans k1)
          · rw [e1] at hland
            simp only [landA, Option.some.injEq] at hland
            refine next (h.put (v := undef) (p' := i + 1) hR e2 ho him hb hn (hdst i o · ho) (by rw [← hland]; exact e3) (by rw [if_pos hE]) ?_ rfl fun d u hd hu => ?_) e2
            · have : (a.put o.dst undef).defers = a.defers := by cases o.dst <;> rfl
              rw [this, ← hland]; show DefsOk P σ' a.defers (xs i).2.1.defers; rw [show (xs i).2.1.defers = (xs p).defers from w2]; exact h.defs.mono e2
            · rw [← hland] at hu
              have hu' : look (putD H f o.dst undefA (xs i).1 (xs i).2.1.env).1 (putD H f o.dst undefA (xs i).1 (xs i).2.1.env).2 d = some u := hu
              rw [hd, look_putD hshape, if_pos rfl] at hu'
              cases hu'
              exact undef_rep
          · rw [e1] at hland
            simp only [landA, Option.some.injEq] at hland
            refine next (h.put (v := undef) (p' := i + 1) hR e2 ho him hb hn (hdst i o · ho) (by rw [← hland]; exact e3) (by rw [if_pos hE]) ?_ (by cases o.dst <;> rfl) fun d u hd hu => ?_) e2
            · have : ({ a with defers := d :: a.defers }.put o.dst undef : Act).defers = d :: a.defers := by cases o.dst <;> rfl
              rw [this, ← hland]; show DefsOk P σ' (d :: a.defers) ((g, as) :: (xs i).2.1.defers); rw [show (xs i).2.1.defers = (xs p).defers from w2]; exact .cons e4 (h.defs.mono e2)
            · rw [← hland] at hu
              have hu' : look (putD H f o.dst undefA (xs i).1 (xs i).2.1.env).1 (putD H f o.dst undefA (xs i).1 (xs i).2.1.env).2 d = some u := hu
              rw [hd, look_putD hshape, if_pos rfl] at hu'
              cases hu'
              exact undef_rep
          · rw [e1] at hland
            simp [landA] at hland
        · have hE' : isE o.op = false := by simpa using hE
          have hq2 := hq
          unfold stepA at hq2
          rw [stepV_still hE'] at hq2
          obtain ⟨x, hx⟩ := opA_still hE' hq2
          subst hx
          have hq' := still_elsewhere h hR ho him hb hn hE' hw hq (fun d hd => hland' d x hd rfl hE') hrc
          refine sim_stepV hX hC h.wf hg (evOf_rep hg (hrd (Nat.le_of_lt him))) hq' (fun v x' w' σ' e1 e2 e3 e4 => ?_) (fun w' σ' e1 e2 e3 => ?_) (fun g as d w' σ' e1 e2 e3 e4 => ?_) (fun v x w' σ' e1 e2 e3 e4 => ?_)
          · cases e1
            refine next (h.put (v := v) (p' := p) hR e2 ho him hb hn (hdst i o · ho) e3 (by rw [if_neg hE]) ?_ rfl fun d u hd hu => ?_) e2
            · have : (a.put o.dst v).defers = a.defers := by cases o.dst <;> rfl
              rw [this]; exact h.defs.mono e2
            · rw [hland' d x hd rfl hE'] at hu
              cases hu
              exact e4
          · cases e1
          · cases e1
          · cases e1
    · subst him
      rcases hend with ⟨_, h2, _⟩ | ⟨v, o', h1, ho', hw, hq, hpok, h3⟩
      · have := (Array.getElem?_eq_some_iff.1 ho).1; omega
      rw [ho] at ho'; cases ho'
      rw [want_of (hrd (Nat.le_refl _)) hw]
      simp only [if_true]
      left
      have hE := (stepV_pan hq).1
      obtain ⟨w1, w2⟩ := hwf hE (Nat.le_refl _)
      have hq' : stepV P H callF f base o (evOf H f o (xs i)) (xs p).objs = some (.pan v, r.2.2) := by
        rw [stepV_congr (evOf_eq (x := xs i)), ← w1]; exact hq
      refine sim_stepV hX hC h.wf hg (evOf_rep hg (hrd (Nat.le_refl _))) hq' (fun v x w' σ' e1 e2 e3 e4 => ?_) (fun w' σ' e1 e2 e3 => ?_) (fun g as d w' σ' e1 e2 e3 e4 => ?_) (fun u x w' σ' e1 e2 e3 e4 => ?_)
      · cases e1
      · cases e1
      · cases e1
      · cases e1
        have hd0 := hR.shp
        refine ⟨σ', hl.trans e2, e3, ⟨⟨h.size, fun t z hz => ?_, fun t z hz => by simp [Env.get] at hz, fun t z hz => ?_, ?_⟩, ?_⟩, by rw [h1]; exact ⟨u, rfl, e4⟩⟩
        · have hz' : Env.get ((xs 0).2.1.env.filter fun p => !(ops.toList.any fun o => o.dst == some p.1)) t = some z := by rw [h3] at hz; simpa [look, Env.get] using hz
          obtain ⟨g1, g2⟩ := Env.get_filter hd0.srt hz'
          refine (h.old t z (fun j oj _ hj e => ?_) ?_).mono e2
          · simp only [Bool.not_eq_true', List.any_eq_false] at g2
            have := g2 oj (List.mem_of_getElem? (i := j) (by simpa using hj))
            simp [e] at this
          · show look _ _ _ = _
            rw [hloc]; simpa [look, Env.get] using g1
        · rw [h3] at hz
          exact hd0.kept t z (Env.get_filter hd0.srt hz).1
        · rw [h3]; exact hd0.srt.filter _
        · rw [h3]; show DefsOk P σ' a.defers (xs i).2.1.defers; rw [show (xs i).2.1.defers = (xs p).defers from w2]; exact h.defs.mono e2
    · exfalso
      rcases hend with ⟨_, h2, _⟩ | ⟨v, o', h1, ho', hw, hq, hpok, h3⟩
      · have := (Array.getElem?_eq_some_iff.1 ho).1; omega
      · obtain ⟨hE, hmp⟩ := stepV_pan hq
        have := (D1.of hR.chk ho').pan hpok hE hmp i (Array.getElem?_eq_some_iff.1 ho).1 him
        have := h.lt m (h.anc ho hb this)
        omega

theorem draw_ok (hm : P.follows .mixedOrders = true) (hX : ExtOk P H) : DrawOk P H W bs := by
  intro callF hC f nt base id ops fr st r hc he σ a w h hg hf
  have hchk : drawOk H f id ops = true := by
    simp only [codeOk, Bool.and_eq_true, Bool.not_true, Bool.false_or] at hc
    exact hc.2
  simp only [regionA, if_true] at he
  obtain ⟨q, hq, h2⟩ := Option.bind_eq_some_iff.1 he
  obtain ⟨m, xs, x0, hle, hk, hst, hloc, hfr, hends, htr⟩ := opsD_run (P := P) (H := H) (callF := callF) (f := f) (base := base) (ops := ops) ops.toList ([], fr, st) [st] 0 q hq
  have hR : RunD P H callF f base id ops xs m := by
    refine ⟨by simpa using hle, fun j hj => ?_, hchk, ?_⟩
    · obtain ⟨o, ho, hs⟩ := hst j hj
      exact ⟨o, by simpa using ho, hs⟩
    · rw [x0]
      exact ⟨fun t v hv => by simp [Env.get] at hv, hf.env.kept, hf.env.srt⟩
  have htr' : q.2.2.2.2.1 = traceT ops xs m := by
    (rw [htr, traceT, x0]) <;> rfl
  split at h2
  · rename_i hall
    have hrc : ∀ x ∈ H.recheck f id, again1 P H f base ops (xs m).1 (xs m).2.1.env (traceT ops xs m) m x = true := by
      intro x hx
      have := List.all_eq_true.1 hall x hx
      rw [hloc, hfr, htr', hk, Nat.zero_add] at this
      exact this
    have hend : EndD P H callF f base id ops xs m r := by
      rcases hends with ⟨e1, e2, e3⟩ | ⟨v, o, e1, e2, e3, e4⟩
      · left
        rw [e1] at h2
        simp only [Option.some.injEq] at h2
        subst h2
        exact ⟨rfl, by simpa using e2, hfr, e3⟩
      · right
        rw [e1] at h2
        simp only at h2
        split at h2
        · rename_i hp
          simp only [Option.some.injEq] at h2
          subst h2
          refine ⟨v, o, rfl, by simpa using e2, e3, e4, hp, ?_⟩
          show ({ q.2.2.1 with env := _ } : Fr) = _
          rw [hfr, x0]
        · simp at h2
    refine wp_region_any hm (draw_any (xs := xs) (m := m) hX hC (dst_ok hc) hR (by rw [x0]) hrc hend ops.size (Array.replicate ops.size false) a _ σ 0 (by simp) (by simp) ?_ (.refl σ) hg)
    have hno : ∀ j, ¬ (Array.replicate ops.size false).getD j false = true := fun j => by
      rw [Array.getD_eq_getD_getElem?, Array.getElem?_replicate]
      split <;> simp
    refine ⟨fun j o hj => absurd hj (hno j), fun j hj => absurd hj (hno j), Nat.zero_le _, fun i o _ _ => ⟨fun hj => absurd hj (hno i), fun hi => by omega⟩, ?_, ?_, hf.env.size, fun j o t v hj => absurd hj (hno j), fun t v _ hv => ?_⟩
    · rw [x0]; exact h.drew
    · rw [x0]; exact hf.defs
    · rw [x0] at hv
      exact hf.env.val t v hv
  · simp at h2
end
end Go.Abs
