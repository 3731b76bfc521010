/-
  A map in memory, as what it says of each key; made, written to and asked, in plain regions and in those that draw their order.
-/
import Derived.Test.YtplbdlgmjehckacDoorMaps
namespace Go.Proofs.YtplbdlgmjehckacDoor
open Go.RowKit
set_option linter.unusedVariables false
set_option linter.unusedSimpArgs false

structure MapFn (d : TypeDesc) (w : World) (b : Nat) (f : Value → Option Value) : Prop where
  ex : ∃ es c, w.heap[b]? = some (.map es c) ∧ (∀ x ∈ es.toList, MapKept.IsKey d x.key) ∧ MapKept.Stamped es c ∧ ∀ k, MapKept.IsKey d k → ∀ v, f k = some v ↔ ∃ x ∈ es.toList, x.key = k ∧ x.val = v
theorem MapFn.made (d : TypeDesc) (w : World) : MapFn d (w.alloc (.map #[] 0)) w.heap.size (fun _ => none) :=
  ⟨⟨#[], 0, newIn w _, by simp, MapKept.stamped_empty 0, by simp⟩⟩
theorem MapFn.kept {d : TypeDesc} {S : Nat → Prop} {w w' : World} {b : Nat} {f : Value → Option Value} (h : MapFn d w b f) (hk : Kept S w w') (hs : ¬ S b) : MapFn d w' b f := by
  obtain ⟨es, c, h1, h2⟩ := h.ex
  exact ⟨⟨es, c, hk.heap hs h1, h2⟩⟩
theorem MapFn.lt {d : TypeDesc} {w : World} {b : Nat} {f : Value → Option Value} (h : MapFn d w b f) : b < w.heap.size := by
  obtain ⟨es, c, h1, _⟩ := h.ex
  exact ltIn h1
theorem kept_setHeap {w : World} {b : Nat} (o : Obj) : Kept (· = b) w { w with heap := w.heap.setIfInBounds b o } :=
  ⟨rfl, rfl, rfl, by simp, fun i hi hs => by
    show (w.heap.setIfInBounds b o)[i]? = w.heap[i]?
    rw [Array.getElem?_setIfInBounds_ne (fun e => hs e.symm)]⟩
section
variable {P : Program} {mty kt et : TypeId} {kind : TypeDesc}
theorem MapFn.update {w : World} {b : Nat} {f f' : Value → Option Value} (h : MapFn kind w b f) (hm : P.underlying mty = some (.map kt et)) (hd : P.underlying kt = some kind) {k v : Value} (hk : MapKept.IsKey kind k)
    (h1 : f' k = some v) (h2 : ∀ x, MapKept.IsKey kind x → x ≠ k → f' x = f x) :
    ∃ w', (Instr.mapUpdate mty (.map (some b)) k v).run P w = .ok () w' ∧ MapFn kind w' b f' ∧ Kept (· = b) w w' ∧ w'.heap.size = w.heap.size := by
  obtain ⟨es, c, hb, hks, hst, hf⟩ := h.ex
  rcases MapKept.findNow_spec hk es.toList 0 hks with ⟨g1, g2⟩ | ⟨j, e, g1, g2, g3⟩
  · refine ⟨{ w with heap := w.heap.setIfInBounds b (.map (es.push ⟨k, v, c⟩) (c + 1)) }, ?_, ⟨⟨_, _, (MapKept.heap_set hb).1, ?_, MapKept.stamped_push hst g2, ?_⟩⟩, kept_setHeap _, by simp⟩
    · simp [Instr.mapUpdate, run_underlying hm, MapKept.run_getObj_map hb, MapKept.run_checkKey hd hk, MapKept.run_findKey hd g1, MapKept.run_setObj_map _ hb, Result.andThen]
    · intro x hx
      simp only [Array.toList_push, List.mem_append, List.mem_singleton] at hx
      rcases hx with hx | rfl
      · exact hks x hx
      · exact hk
    · intro x hx y
      simp only [Array.toList_push, List.mem_append, List.mem_singleton]
      by_cases hxk : x = k
      · subst hxk
        rw [h1]
        constructor
        · intro e; cases e; exact ⟨_, .inr rfl, rfl, rfl⟩
        · rintro ⟨z, hz | rfl, hzk, rfl⟩
          · exact absurd hzk (g2 z hz)
          · rfl
      · rw [h2 x hx hxk, hf x hx y]
        constructor
        · rintro ⟨z, hz, e⟩; exact ⟨z, .inl hz, e⟩
        · rintro ⟨z, hz | rfl, hzk, e⟩
          · exact ⟨z, hz, hzk, e⟩
          · exact absurd hzk.symm hxk
  · have hj : es[j]? = some e := by simpa using g2
    have hkey : ∀ e', es[j]? = some e' → ({ e' with key := k, val := v } : MapEntry).key = e'.key := fun e' he' => by rw [hj] at he'; cases he'; exact g3.symm
    refine ⟨{ w with heap := w.heap.setIfInBounds b (.map (es.modify j fun e => { e with key := k, val := v }) c) }, ?_, ⟨⟨_, _, (MapKept.heap_set hb).1, MapKept.isKey_modify hks _ _ hkey, MapKept.stamped_modify hst _ _ (fun _ _ => rfl) (fun e' _ he' => hkey e' he'), ?_⟩⟩, kept_setHeap _, by simp⟩
    · simp [Instr.mapUpdate, run_underlying hm, MapKept.run_getObj_map hb, MapKept.run_checkKey hd hk, MapKept.run_findKey hd g1, hj, g3, MapKept.run_keyThatStays hk, MapKept.run_setObj_map _ hb, Result.andThen]
    · have huniq : ∀ (i : Nat) (x : MapEntry), es[i]? = some x → x.key = k → i = j := by
        intro i x hi hxk
        have hnd := hst.2.2
        have hi' : (es.toList.map (·.key))[i]? = some k := by rw [List.getElem?_map]; simp [hi, hxk]
        have hj' : (es.toList.map (·.key))[j]? = some k := by rw [List.getElem?_map]; simp [hj, g3]
        exact (List.getElem?_inj (List.getElem?_eq_some_iff.1 hi').1 hnd).1 (hi'.trans hj'.symm)
      have hmem : ∀ z : MapEntry, z ∈ (es.modify j fun e => { e with key := k, val := v }).toList ↔ (∃ i, i ≠ j ∧ es[i]? = some z) ∨ z = { e with key := k, val := v } := by
        intro z
        rw [List.mem_iff_getElem?]
        constructor
        · rintro ⟨i, hi⟩
          rw [Array.getElem?_toList, Array.getElem?_modify] at hi
          split at hi
          · rename_i hij
            subst hij
            rw [hj] at hi
            right; simpa using hi.symm
          · rename_i hij
            exact .inl ⟨i, fun e => hij e.symm, hi⟩
        · rintro (⟨i, hij, hi⟩ | rfl)
          · exact ⟨i, by rw [Array.getElem?_toList, Array.getElem?_modify, if_neg (fun e => hij e.symm)]; exact hi⟩
          · exact ⟨j, by rw [Array.getElem?_toList, Array.getElem?_modify, if_pos rfl, hj]; rfl⟩
      intro x hx y
      by_cases hxk : x = k
      · subst hxk
        rw [h1]
        constructor
        · intro e'; cases e'; exact ⟨_, (hmem _).2 (.inr rfl), rfl, rfl⟩
        · rintro ⟨z, hz, hzk, rfl⟩
          rcases (hmem z).1 hz with ⟨i, hij, hi⟩ | rfl
          · exact absurd (huniq i z hi hzk) hij
          · rfl
      · rw [h2 x hx hxk, hf x hx y]
        constructor
        · rintro ⟨z, hz, hzk, e'⟩
          obtain ⟨i, hi⟩ := List.mem_iff_getElem?.1 hz
          have hi : es[i]? = some z := by simpa using hi
          refine ⟨z, (hmem z).2 (.inl ⟨i, fun hij => hxk ?_, hi⟩), hzk, e'⟩
          rw [hij, hj] at hi; cases hi
          rw [← hzk, g3]
        · rintro ⟨z, hz, hzk, e'⟩
          rcases (hmem z).1 hz with ⟨i, hij, hi⟩ | rfl
          · exact ⟨z, List.mem_iff_getElem?.2 ⟨i, by simpa using hi⟩, hzk, e'⟩
          · exact absurd hzk.symm hxk
theorem MapFn.hit {w : World} {b : Nat} {f : Value → Option Value} (h : MapFn kind w b f) (hm : P.underlying mty = some (.map kt et)) (hd : P.underlying kt = some kind) {k v : Value} (hk : MapKept.IsKey kind k) (hf : f k = some v) (ok : Bool) :
    (Instr.lookup mty (.map (some b)) k ok).run P w = .ok (if ok then .tuple #[v, .bool true] else v) w := by
  obtain ⟨es, c, hb, hks, hst, hff⟩ := h.ex
  rcases MapKept.findNow_spec hk es.toList 0 hks with ⟨g1, g2⟩ | ⟨j, e, g1, g2, g3⟩
  · obtain ⟨x, hx, hxk, _⟩ := (hff k hk v).1 hf
    exact absurd hxk (g2 x hx)
  · have := (hff k hk e.val).2 ⟨e, List.mem_iff_getElem?.2 ⟨j, g2⟩, g3, rfl⟩
    rw [hf] at this
    cases this
    exact run_look_hit hm hd hb hk g1 ok
theorem MapFn.miss {w : World} {b : Nat} {f : Value → Option Value} (h : MapFn kind w b f) (hm : P.underlying mty = some (.map kt et)) (hd : P.underlying kt = some kind) {k z : Value} (hk : MapKept.IsKey kind k) (hf : f k = none) (hz : (zeroValue et).run P w = .ok z w) (ok : Bool) :
    (Instr.lookup mty (.map (some b)) k ok).run P w = .ok (if ok then .tuple #[z, .bool false] else z) w := by
  obtain ⟨es, c, hb, hks, hst, hff⟩ := h.ex
  rcases MapKept.findNow_spec hk es.toList 0 hks with ⟨g1, g2⟩ | ⟨j, e, g1, g2, g3⟩
  · exact run_look_miss hm hd hb hk g1 hz ok
  · have := (hff k hk e.val).2 ⟨e, List.mem_iff_getElem?.2 ⟨j, g2⟩, g3, rfl⟩
    rw [hf] at this; cases this

/-! ### at a step of a region that draws its order -/
variable {ops : Array Oper} {o : Oper} {a : Act} {K : Act → World → Prop} {Q : Exit → Act → World → Prop} {E : Prop}
theorem step_made {w : World} (hw : Region.wanted o (yielded ops a.tmps) = true) (t : TypeId) (ho : o.op = .makeMap t none) (d : TypeDesc)
    (h : ∀ b w', b = w.heap.size → w'.heap.size = w.heap.size + 1 → MapFn d w' b (fun _ => none) → Kept (fun _ => False) w w' → K (a.put o.dst (.map (some b))) w') : if Region.wanted o (yielded ops a.tmps) = true then Oper.wp P o a w K Q else E := by
  rw [if_pos hw]
  unfold Oper.wp execOp
  simp only [ho, Option.map_none, Sem.run_bind, Sem.run_pure, run_made, Result.andThen_ok]
  exact h _ _ rfl (by simp) (MapFn.made d w) ((Kept.refl _ w).alloc _)
theorem step_insert {w : World} {b : Nat} {f : Value → Option Value} (hw : Region.wanted o (yielded ops a.tmps) = true) (m k x : Operand) (ho : o.op = .insert mty m k x) (hm : P.underlying mty = some (.map kt et)) (hd : P.underlying kt = some kind)
    (f' : Value → Option Value) (hM : MapFn kind w b f) (kv xv : Value) (hmv : a.eval m = .map (some b)) (hkv : a.eval k = kv) (hxv : a.eval x = xv) (hk : MapKept.IsKey kind kv) (h1 : f' kv = some xv) (h2 : ∀ y, MapKept.IsKey kind y → y ≠ kv → f' y = f y)
    (h : ∀ w', MapFn kind w' b f' → Kept (· = b) w w' → w'.heap.size = w.heap.size → K (a.put o.dst undef) w') : if Region.wanted o (yielded ops a.tmps) = true then Oper.wp P o a w K Q else E := by
  obtain ⟨w', hr, hM', hk', hs'⟩ := hM.update hm hd hk h1 h2
  rw [if_pos hw]
  unfold Oper.wp execOp
  simp only [ho, hmv, hkv, hxv, Sem.run_bind, Sem.run_pure, hr, Result.andThen_ok]
  exact h w' hM' hk' hs'
theorem step_value {w : World} (hw : Region.wanted o (yielded ops a.tmps) = true) (v : Value) (he : (execOp a.eval o).run P w = .ok (.value v) w) (h : K (a.put o.dst v) w) : if Region.wanted o (yielded ops a.tmps) = true then Oper.wp P o a w K Q else E := by
  rw [if_pos hw]
  unfold Oper.wp
  rw [he]
  exact h
theorem step_look {w : World} (hw : Region.wanted o (yielded ops a.tmps) = true) (m k : Operand) (ok : Bool) (ho : o.op = .lookup mty m k ok) (b : Nat) (kv v : Value) (hmv : a.eval m = .map (some b)) (hkv : a.eval k = kv)
    (hr : (Instr.lookup mty (.map (some b)) kv ok).run P w = .ok v w) (h : K (a.put o.dst v) w) : if Region.wanted o (yielded ops a.tmps) = true then Oper.wp P o a w K Q else E := by
  refine step_value hw v ?_ h
  unfold execOp
  simp only [ho, hmv, hkv, Sem.run_bind, Sem.run_pure, hr, Result.andThen_ok]
/-! #### as the walk has them, its 'simp' behind it -/
theorem upon_made {w : World} (t : TypeId) (d : TypeDesc) (h : ∀ b w', b = w.heap.size → w'.heap.size = w.heap.size + 1 → MapFn d w' b (fun _ => none) → Kept (fun _ => False) w w' → K (a.put o.dst (.map (some b))) w') :
    Oper.upon P o a K Q ((Sem.run P (Instr.makeMap t none) w).andThen fun v w' => .ok (.value v) w') := by
  rw [run_made]
  exact h _ _ rfl (by simp) (MapFn.made d w) ((Kept.refl _ w).alloc _)
theorem upon_insert {w : World} {b : Nat} {f : Value → Option Value} (hm : P.underlying mty = some (.map kt et)) (hd : P.underlying kt = some kind) (f' : Value → Option Value) (hM : MapFn kind w b f) {kv xv : Value} (hk : MapKept.IsKey kind kv) (h1 : f' kv = some xv) (h2 : ∀ y, MapKept.IsKey kind y → y ≠ kv → f' y = f y)
    (h : ∀ w', MapFn kind w' b f' → Kept (· = b) w w' → w'.heap.size = w.heap.size → K (a.put o.dst undef) w') :
    Oper.upon P o a K Q ((Sem.run P (Instr.mapUpdate mty (.map (some b)) kv xv) w).andThen fun _ w' => .ok .skip w') := by
  obtain ⟨w', hr, hM', hk', hs'⟩ := hM.update hm hd hk h1 h2
  rw [hr]
  exact h w' hM' hk' hs'
theorem upon_look {w : World} {b : Nat} {kv : Value} {ok : Bool} (v : Value) (hr : (Instr.lookup mty (.map (some b)) kv ok).run P w = .ok v w) (h : K (a.put o.dst v) w) :
    Oper.upon P o a K Q ((Sem.run P (Instr.lookup mty (.map (some b)) kv ok) w).andThen fun v w' => .ok (.value v) w') := by
  rw [hr]
  exact h
end
end Go.Proofs.YtplbdlgmjehckacDoor
