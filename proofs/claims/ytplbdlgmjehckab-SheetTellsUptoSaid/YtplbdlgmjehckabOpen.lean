/-
  An argument that reads as data: declarations, selectors, rules, elements, texts; and how much they hold together.
-/
import Derived.Test.YtplbdlgmjehckabReads
import Derived.Deep.Strs
import Derived.ProofKit
namespace Go.Proofs.Ytplbdlgmjehckab
open Go.RowKit Go.ChangeShapes Go.WideShapes Go.Deep
set_option linter.unusedVariables false
set_option linter.unusedSimpArgs false

/-! ### how much a datum holds -/
abbrev bulk {H : Type} (d : DataW H) : Nat := Rows.uptoBulk d
theorem bulk_pos {H : Type} (d : DataW H) : 1 ≤ bulk d := by
  unfold bulk
  cases d with
  | lit l => cases l <;> simp [Rows.uptoBulk]
  | nil => simp [Rows.uptoBulk]
  | ptr d => simp [Rows.uptoBulk]
  | slice elems spare => simp [Rows.uptoBulk]
  | agg parts => simp [Rows.uptoBulk]
  | iface t d => simp [Rows.uptoBulk]
  | map entries => simp [Rows.uptoBulk]
  | held h => simp [Rows.uptoBulk]
theorem bulk_all {H : Type} (ds : List (DataW H)) : Rows.uptoBulkAll ds = (ds.map bulk).sum := by
  induction ds with
  | nil => rfl
  | cons d ds ih => simp only [Rows.uptoBulkAll, List.map_cons, List.sum_cons, ih]
theorem sum_le_map {α β : Type} (f : α → Nat) (g : β → Nat) : ∀ (xs : List α) (ys : List β), xs.length = ys.length → (∀ (i : Nat) x y, xs[i]? = some x → ys[i]? = some y → f x ≤ g y) → (xs.map f).sum ≤ (ys.map g).sum
  | [], [], _, _ => Nat.le_refl _
  | [], _ :: _, h, _ => by simp at h
  | _ :: _, [], h, _ => by simp at h
  | x :: xs, y :: ys, h, hf => by
    have h0 := hf 0 x y rfl rfl
    have h1 := sum_le_map f g xs ys (by simpa using h) (fun i x y hx hy => hf (i + 1) x y (by simpa using hx) (by simpa using hy))
    simp only [List.map_cons, List.sum_cons]
    omega

section
variable {H : Type} {enc : TypeId × Value → H} {P : Program} {w : World} {spare : Nat → Bool} {held : Bool}

theorem choose_list {α : Type} {n : Nat} {p : Nat → α → Prop} (h : ∀ i, i < n → ∃ x, p i x) : ∃ xs : List α, xs.length = n ∧ ∀ i x, xs[i]? = some x → p i x := by
  induction n with
  | zero => exact ⟨[], rfl, fun i x hx => by simp at hx⟩
  | succ n ih =>
    obtain ⟨xs, h1, h2⟩ := ih (fun i hi => h i (by omega))
    obtain ⟨x, hx⟩ := h n (by omega)
    refine ⟨xs ++ [x], by simp [h1], fun i y hy => ?_⟩
    by_cases hi : i < xs.length
    · rw [List.getElem?_append_left hi] at hy; exact h2 i y hy
    · have hlt := (List.getElem?_eq_some_iff.1 hy).1
      simp at hlt
      have : i = n := by omega
      subst this
      rw [List.getElem?_append_right (by omega)] at hy
      simp [h1] at hy
      subst hy; exact hx
theorem cells_get {b : Nat} {a : Addr} {n : Nat} {cs : List Value} (h : w.cells? b a n = some cs) (hn : 0 < n) : ∃ k off, a = ⟨k, off, none⟩ ∧ cs.length = n ∧ ∀ j c, cs[j]? = some c → w.cell? ⟨k, off + j, none⟩ = some c := by
  obtain ⟨h1, h2, h3⟩ := World.cells?_some h
  obtain ⟨k, off, spot⟩ := a
  have h0 := h3 0 hn
  have hc : cs[0]? = some (cs[0]'(by omega)) := List.getElem?_eq_getElem _
  rw [hc] at h0
  have hspot : spot = none := by simpa [Addr.add] using World.cell?_spot h0
  subst hspot
  refine ⟨k, off, rfl, h2, fun j c hj => ?_⟩
  have hlt := (List.getElem?_eq_some_iff.1 hj).1
  have := h3 j (by omega)
  rw [Go.WideShapes.add_plain, hj] at this
  exact this

/-- a slice, element by element: f, size: an element's cells; Q: what its inner cell leads to; wt: how much it holds -/
theorem open_nest {α : Type} {t e : TypeId} {size fuel : Nat} {cs : List Value} {x : DataW H × List MemPlace} (f : α → Value → List Value) (Q : World → Value → α → Prop) (Ok : α → Prop) (wt : α → Nat) (hu : P.underlying t = some (.slice e)) (hc : P.cellsOf e = size) (hs : 0 < size)
    (hel : ∀ (n : Nat) (cs : List Value) (y : DataW H × List MemPlace), DataW.trod enc P w 0 spare held n e cs = some y → ∃ (r : α) (u : Value), cs = f r u ∧ Q w u r ∧ Ok r ∧ wt r ≤ bulk y.1)
    (h : DataW.trod enc P w 0 spare held fuel t cs = some x) : ∃ (v : Value) (xs : List α), cs = [v] ∧ NestAt f size Q w v xs ∧ (∀ x ∈ xs, Ok x) ∧ (xs.map wt).sum + 1 ≤ bulk x.1 := by
  rcases open_slice hu h with ⟨rfl, rfl⟩ | ⟨a, len, cap, m, n, D, Pl, rfl, hb, hl, hm, hmm, rfl, hx⟩
  · exact ⟨_, [], rfl, ⟨[], rfl, RowsAt.nil _ _, fun i x u hx => by simp at hx⟩, by simp, bulk_pos _⟩
  have hlm : len ≤ m := by rw [hmm]; split <;> omega
  obtain ⟨ps, hp1, hp2⟩ := choose_list (n := len) (p := fun i (p : α × Value) => w.cells? 0 (a.add (i * size)) size = some (f p.1 p.2) ∧ Q w p.2 p.1 ∧ Ok p.1 ∧ wt p.1 ≤ bulk (D i)) (fun i hi => by
    obtain ⟨cs', h1, h2⟩ := hx i (by omega)
    obtain ⟨r, u, rfl, h3, h5, h4⟩ := hel _ _ _ h2
    rw [hc] at h1
    exact ⟨(r, u), h1, h3, h5, h4⟩)
  refine ⟨_, ps.map (·.1), rfl, ⟨ps.map (·.2), by simp, ?_, ?_⟩, ?_, ?_⟩
  · have hz : List.zipWith f (ps.map (·.1)) (ps.map (·.2)) = ps.map fun p => f p.1 p.2 := by
      rw [List.zipWith_map]
      induction ps with
      | nil => rfl
      | cons p ps ih => simp
    rw [hz]
    refine ⟨some a, cap, by simp [hp1], by simp [hp1]; omega, hm, fun hne => ?_⟩
    have hlen : 0 < len := by
      rw [← hp1]
      rcases Nat.eq_zero_or_pos ps.length with h0 | h0
      · exact absurd (by rw [List.length_eq_zero_iff.1 h0]; rfl) hne
      · exact h0
    obtain ⟨p0, hp0⟩ : ∃ p, ps[0]? = some p := ⟨_, List.getElem?_eq_getElem (by omega)⟩
    obtain ⟨k0, off0, ha0, _, _⟩ := cells_get (hp2 0 p0 hp0).1 hs
    have ha : ∃ b off, a = ⟨b, off, none⟩ := by
      obtain ⟨b, off, spot⟩ := a
      have : spot = none := by
        simp only [Nat.zero_mul] at ha0
        cases spot with
        | none => rfl
        | some s => simp [Addr.add] at ha0
      subst this
      exact ⟨b, off, rfl⟩
    obtain ⟨b, off, rfl⟩ := ha
    refine ⟨b, off, rfl, fun i r hr j c hj => ?_⟩
    rw [List.getElem?_map, Option.map_eq_some_iff] at hr
    obtain ⟨p, hp, rfl⟩ := hr
    obtain ⟨k1, off1, ha1, _, hcell⟩ := cells_get (hp2 i p hp).1 hs
    rw [Go.WideShapes.add_plain] at ha1
    cases ha1
    exact hcell j c hj
  · intro i x u hx hu
    rw [List.getElem?_map, Option.map_eq_some_iff] at hx hu
    obtain ⟨p, hp, rfl⟩ := hx
    obtain ⟨q, hq, rfl⟩ := hu
    rw [hp] at hq; cases hq
    exact (hp2 i p hp).2.1
  · intro x hx
    obtain ⟨p, hp, rfl⟩ := List.mem_map.1 hx
    obtain ⟨i, hi⟩ := List.mem_iff_getElem?.1 hp
    exact (hp2 i p hi).2.2.1
  · rw [List.map_map]
    have h1 := sum_le_map (wt ∘ (·.1)) (fun i => bulk (D i)) ps (List.range len) (by simp [hp1]) (fun i p j hi hj => by
      have := (hp2 i p hi).2.2.2
      have hlt := (List.getElem?_eq_some_iff.1 hj).1
      rw [List.getElem?_eq_getElem hlt] at hj
      simp at hj
      subst hj
      exact this)
    have h2 : bulk (DataW.slice ((List.range len).map D) ((List.range (m - len)).map fun j => D (len + j))) = (((List.range len).map D).map bulk).sum + Rows.uptoBulkAll ((List.range (m - len)).map fun j => D (len + j)) + 1 := by
      unfold bulk
      rw [Rows.uptoBulk, bulk_all]
    rw [h2, List.map_map]
    have h3 : ((List.range len).map fun i => bulk (D i)).sum = ((List.range len).map (bulk ∘ D)).sum := rfl
    omega
theorem arg_slice {base : Nat} {t e : TypeId} {v : Value} {d : DataW H} {p : List MemPlace} (hu : P.underlying t = some (.slice e)) (hv : Value.okWide P w .any base t v) (h : DataW.Trod enc P w 0 spare held t v d p) :
    ∃ n, DataW.trod enc P w 0 spare held n t [v] = some (d, p) := by
  obtain ⟨a, len, cap, rfl⟩ := okWide_slice hu hv
  exact h
theorem wf_i64 {n : Int} (h : (Lit.int .i64 n).wf = true) : -9223372036854775808 ≤ n ∧ n ≤ 9223372036854775807 := by
  simpa [Lit.wf, IntKind.min, IntKind.max, IntKind.signed, IntKind.bits] using h
end
/-- a number that fits -/
def I64 (n : Int) : Prop := -9223372036854775808 ≤ n ∧ n ≤ 9223372036854775807
/-- rows whose cells lead to nothing more -/
theorem nest_rows {α : Type} {f : α → List Value} {size : Nat} {w : World} {v : Value} {xs : List α} (h : NestAt (fun a _ => f a) size (fun _ _ _ => True) w v xs) : RowsAt w size v (xs.map f) := by
  obtain ⟨vs, h1, h2, h3⟩ := h
  have e : List.zipWith (fun a (_ : Value) => f a) xs vs = xs.map f := by
    clear h2 h3
    induction xs generalizing vs with
    | nil => simp
    | cons x xs ih =>
      cases vs with
      | nil => simp at h1
      | cons v vs => simp only [List.zipWith_cons_cons, List.map_cons]; rw [ih vs (by simpa using h1)]
  rw [e] at h2
  exact h2
theorem sum_len {α : Type} (f : α → Nat) (hf : ∀ a, 1 ≤ f a) : ∀ xs : List α, xs.length ≤ (xs.map f).sum
  | [] => Nat.le_refl _
  | x :: xs => by have := sum_len f hf xs; have := hf x; simp only [List.length_cons, List.map_cons, List.sum_cons]; omega
theorem sum_mem {α : Type} (f : α → Nat) : ∀ {xs : List α} {x : α}, x ∈ xs → f x ≤ (xs.map f).sum
  | y :: xs, x, h => by
    simp only [List.map_cons, List.sum_cons]
    rcases List.mem_cons.1 h with rfl | h
    · omega
    · have := sum_mem f h; omega
section
variable {α : Type}
theorem len1 : ∀ {l : List α}, l.length = 1 → ∃ a, l = [a]
  | [a], _ => ⟨_, rfl⟩
theorem len2 {l : List α} (h : l.length = 2) : ∃ a b, l = [a, b] := by
  cases l with
  | nil => simp at h
  | cons a l => obtain ⟨b, rfl⟩ := len1 (l := l) (by simpa using h); exact ⟨_, _, rfl⟩
theorem len3 {l : List α} (h : l.length = 3) : ∃ a b c, l = [a, b, c] := by
  cases l with
  | nil => simp at h
  | cons a l => obtain ⟨b, c, rfl⟩ := len2 (l := l) (by simpa using h); exact ⟨_, _, _, rfl⟩
theorem len4 {l : List α} (h : l.length = 4) : ∃ a b c d, l = [a, b, c, d] := by
  cases l with
  | nil => simp at h
  | cons a l => obtain ⟨b, c, d, rfl⟩ := len3 (l := l) (by simpa using h); exact ⟨_, _, _, _, rfl⟩
theorem len5 {l : List α} (h : l.length = 5) : ∃ a b c d e, l = [a, b, c, d, e] := by
  cases l with
  | nil => simp at h
  | cons a l => obtain ⟨b, c, d, e, rfl⟩ := len4 (l := l) (by simpa using h); exact ⟨_, _, _, _, _, rfl⟩
theorem len6 {l : List α} (h : l.length = 6) : ∃ a b c d e f, l = [a, b, c, d, e, f] := by
  cases l with
  | nil => simp at h
  | cons a l => obtain ⟨b, c, d, e, f, rfl⟩ := len5 (l := l) (by simpa using h); exact ⟨_, _, _, _, _, _, rfl⟩
end
def wtStr (s : B) : Nat := s.length + 1
def wtDecl (d : PDecl) : Nat := d.name.length + d.val.length + 4
theorem strs_low (s : B) : 1 ≤ wtStr s := by unfold wtStr; omega
theorem decl_low (d : PDecl) : 1 ≤ wtDecl d := by unfold wtDecl; omega

section
variable {H : Type} {enc : TypeId × Value → H} {w : World} {spare : Nat → Bool} {held : Bool}
theorem c_string : Try.prog.cellsOf 9 = 1 := by kernel_rfl
theorem c_bool : Try.prog.cellsOf 4 = 1 := by kernel_rfl
theorem c_int : Try.prog.cellsOf 3 = 1 := by kernel_rfl
theorem c_decl : Try.prog.cellsOf 62 = 3 := by kernel_rfl
theorem open_decl {n : Nat} {cs : List Value} {y : DataW H × List MemPlace} (h : DataW.trod enc Try.prog w 0 spare held n 62 cs = some y) : ∃ d : PDecl, cs = declCells d ∧ wtDecl d ≤ bulk y.1 := by
  obtain ⟨xs, n', _, rfl, hl, hlen, hf⟩ := DataW.trod_struct Try.underlying62 h
  rw [c_decl] at hl
  have hlen' : xs.length = 3 := hlen
  obtain ⟨y0, y1, y2, rfl⟩ := len3 hlen'
  obtain ⟨c0, c1, c2, rfl⟩ := len3 hl
  · have h0 : DataW.trod enc Try.prog w 0 spare held n' 9 [c0] = some y0 := by simpa [c_string] using hf 0 _ rfl
    have h1 : DataW.trod enc Try.prog w 0 spare held n' 9 [c1] = some y1 := by simpa [c_string] using hf 1 _ rfl
    have h2 : DataW.trod enc Try.prog w 0 spare held n' 4 [c2] = some y2 := by simpa [c_bool] using hf 2 _ rfl
    obtain ⟨s0, e0, rfl, _⟩ := DataW.trod_string Try.underlying9 h0
    obtain ⟨s1, e1, rfl, _⟩ := DataW.trod_string Try.underlying9 h1
    obtain ⟨b, e2, rfl⟩ := DataW.trod_bool Try.underlying4 h2
    simp only [List.cons.injEq, and_true] at e0 e1 e2
    subst e0; subst e1; subst e2
    refine ⟨⟨s0.data.toList, s1.data.toList, b⟩, rfl, ?_⟩
    simp only [wtDecl, bulk, Rows.uptoBulk, Rows.uptoBulkAll, List.map_cons, List.map_nil]
    omega
theorem open_decls {n : Nat} {cs : List Value} {y : DataW H × List MemPlace} (h : DataW.trod enc Try.prog w 0 spare held n 22 cs = some y) :
    ∃ (v : Value) (ds : List PDecl), cs = [v] ∧ DeclsAt w v ds ∧ (ds.map wtDecl).sum + 1 ≤ bulk y.1 := by
  obtain ⟨v, ds, h1, h2, _, h3⟩ := open_nest (fun d _ => declCells d) (fun _ _ _ => True) (fun _ => True) wtDecl Try.underlying22 c_decl (by omega) (fun n cs y h => by
    obtain ⟨d, h1, h2⟩ := open_decl h
    exact ⟨d, .bool false, h1, trivial, trivial, h2⟩) h
  exact ⟨v, ds, h1, nest_rows h2, h3⟩
theorem open_strs' {n : Nat} {cs : List Value} {y : DataW H × List MemPlace} (h : DataW.trod enc Try.prog w 0 spare held n 63 cs = some y) :
    ∃ (v : Value) (ss : List B), cs = [v] ∧ StrsAt w v ss ∧ (ss.map wtStr).sum + 1 ≤ bulk y.1 := by
  obtain ⟨v, ds, h1, h2, _, h3⟩ := open_nest (fun s _ => [Value.string (str s)]) (fun _ _ _ => True) (fun _ => True) wtStr Try.underlying63 c_string (by omega) (fun n cs y h => by
    obtain ⟨s, rfl, rfl, _⟩ := DataW.trod_string Try.underlying9 h
    refine ⟨s.data.toList, .bool false, rfl, trivial, trivial, ?_⟩
    simp only [wtStr, bulk, Rows.uptoBulk]
    omega) h
  exact ⟨v, ds, h1, nest_rows h2, h3⟩
set_option maxRecDepth 20000 in
theorem arg_decls {base : Nat} {v : Value} {d : DataW H} {p : List MemPlace} (hv : Value.okWide Try.prog w .any base 22 v) (h : DataW.Trod enc Try.prog w 0 spare held 22 v d p) :
    ∃ ds : List PDecl, DeclsAt w v ds ∧ (ds.map wtDecl).sum + 1 ≤ bulk d := by
  obtain ⟨n, h⟩ := arg_slice (P := Try.prog) (e := 62) Try.underlying22 hv h
  obtain ⟨v', ds, h1, h2, h3⟩ := open_decls h
  cases h1
  exact ⟨ds, h2, h3⟩
set_option maxRecDepth 20000 in
theorem arg_strs {base : Nat} {v : Value} {d : DataW H} {p : List MemPlace} (hv : Value.okWide Try.prog w .any base 63 v) (h : DataW.Trod enc Try.prog w 0 spare held 63 v d p) :
    ∃ ss : List B, StrsAt w v ss ∧ (ss.map wtStr).sum + 1 ≤ bulk d := by
  obtain ⟨n, h⟩ := arg_slice (P := Try.prog) (e := 9) Try.underlying63 hv h
  obtain ⟨v', ds, h1, h2, h3⟩ := open_strs' h
  cases h1
  exact ⟨ds, h2, h3⟩
end
end Go.Proofs.Ytplbdlgmjehckab
