/-
  append(dst, src...) where src may be empty: the run's equation, and what is owned behind it.
-/
import Derived.Test.YtplbdlgmjehckacDoorRowsNews
import Derived.Deep.Upon
namespace Go.Proofs.YtplbdlgmjehckacDoor
open Go.RowKit
set_option linter.unusedVariables false
set_option linter.unusedSimpArgs false

theorem owns_built (w : World) (base e size : Nat) (hb : base ≤ w.heap.size) : (w.alloc (.cells #[] e (0, 0))).ownsRow base e size (.slice (some ⟨w.heap.size, 0, none⟩) 0 0) 0 [] :=
  ⟨by simp, .inr ⟨w.heap.size, 0, #[], rfl, hb, newIn w _, Nat.le_refl _, by unfold maxLen; omega, by simp, by simp⟩⟩
section
variable {P : Program}
theorem append_any (w : World) (t ty : TypeId) (base : Nat) (e : TypeId) (i : TypeInfo) (z : Value) (size bytes : Nat) (ht : P.underlying t = some (.slice e)) (hi : P.info? e = some i) (hz : i.zero = some z)
    (hsize : i.size = size) (hby : i.bytes = bytes) (hzs : z.cells.size = size) (hsz : 0 < size)
    (ao : Option Addr) (n co : Nat) (xs : List Value) (hown : w.ownsRow base e size (.slice ao n co) n xs)
    (a : Option Addr) (m c : Nat) (rows : List (List Value)) (hr : RowsAt w size (.slice a m c) rows) (hl : ∀ r ∈ rows, r.length = size) (h1 : ∀ u ∈ rows.flatten, u.oneCell' = true)
    (h63 : n + m ≤ maxLen) (hbytes : (n + m) * bytes ≤ 140737488355328) (hbase : base ≤ w.heap.size) :
    ∃ a' c' w', (Builtin.append_ #[t, t] ty #[.slice ao n co, .slice a m c]).run P w = .ok (.slice a' (n + m) c') w' ∧ w'.ownsRow base e size (.slice a' (n + m) c') (n + m) (xs ++ rows.flatten) ∧
      Kept (fun k => (Value.slice ao n co).ownBlock = some k) w w' ∧ ((Value.slice a' (n + m) c').ownBlock = (Value.slice ao n co).ownBlock ∨ ∃ g, (Value.slice a' (n + m) c').ownBlock = some g ∧ w.heap.size ≤ g) := by
  have hm : m = rows.length := hr.len
  by_cases h0 : rows = []
  · subst h0
    simp only [List.length_nil] at hm
    subst hm
    have hle : n ≤ co := by
      rcases hown.2 with ⟨h, hn⟩ | ⟨g, cap, cur, hv, _, _, hnc, _⟩
      · simp only [Value.slice.injEq] at h; omega
      · simp only [Value.slice.injEq] at hv; omega
    have hs : Src P i.size t (.slice a 0 c) 0 [] w := by
      cases a with
      | none => exact Src.ofNil w ht c
      | some a => exact Src.ofSlice w ht a 0 c [] (by simp) (by simp) (by simp)
    refine ⟨ao, co, w, run_append_nothing w t t ty e i ht hi ao n co hle (.slice a 0 c) hs, by simpa using hown, Kept.refl _ _, .inl rfl⟩
  · obtain ⟨b, off, rfl⟩ := hr.addr h0
    have hpos : 0 < m := by rw [hm]; exact List.length_pos_iff.2 h0
    obtain ⟨g, cap, w', hrun, h2, h3, h4, h5⟩ := run_append_lies (P := P) w t ty base e i z size bytes ht hi hz hsize hby hzs hsz (.slice ao n co) n xs hown ⟨b, off, none⟩ m c rows.flatten (by rw [flatten_len size rows hl, hm]) (hr.news hl) h1 hpos h63 hbytes hbase w.heap.size rfl
    refine ⟨_, cap, w', hrun, h2, (Kept.refl _ w).grown h3 (fun k hk => .inl hk), ?_⟩
    rcases h4 with h4 | h4
    · exact .inl h4.symm
    · exact .inr ⟨g, rfl, by omega⟩
/-- at the operation, guarded or not: by the run's equation -/
theorem wpList_append_eq {ops : Array Oper} {rest : List Oper} {o : Oper} {a : Act} {w : World} {Q : Exit → Act → World → Prop} (hw : Region.wanted o (yielded ops a.tmps) = true) (s x : Operand) (t : TypeId)
    (ho : o.op = .call { callee := .builtin .append, args := #[s, x], argTypes := #[t, t] }) (sv xv v : Value) (hs : a.eval s = sv) (hx : a.eval x = xv) (w' : World)
    (hr : (Builtin.append_ #[t, t] o.type #[sv, xv]).run P w = .ok v w') (h : wpList P ops Q rest (a.put o.dst v) w') : wpList P ops Q (o :: rest) a w :=
  wpList_step fun K hK => by
    rw [if_pos hw]
    unfold Oper.wp execOp
    simp only [ho, resolve, invoke, builtin, Sem.run_bind, Sem.run_pure, Result.andThen_ok, List.map_toArray, List.map_cons, List.map_nil, hs, hx, hr]
    exact hK _ _ h
end
end Go.Proofs.YtplbdlgmjehckacDoor
