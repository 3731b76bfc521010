/-
  What is read of sheets, as it lies in memory: tests, parts, selectors, declarations, rules.
-/
import Derived.Test.YtplbdlgmjehckabMem
import Derived.Test.YtplbdlgmjehckabShSpec
namespace Go.Proofs.Ytplbdlgmjehckab
open Go.RowKit
set_option linter.unusedVariables false
set_option linter.unusedSimpArgs false

def testCells (t : PTest) : List Value := [.int .i64 t.kind, .string (str t.name), .string (str t.val)]
/-- v reads as these tests, out of none of the blocks X -/
def TestsIn (w : World) (X : Nat → Prop) (v : Value) (ts : List PTest) : Prop := RowsAt w 3 v (ts.map testCells) ∧ ∀ k, v.ownBlock = some k → ¬ X k ∧ k < w.heap.size
theorem TestsIn.kept {w w' : World} {X X' S : Nat → Prop} {v : Value} {ts : List PTest} (h : TestsIn w X v ts) (hk : Kept S w w') (hS : ∀ k, k < w.heap.size → S k → X k) (hX : ∀ k, k < w.heap.size → X' k → X k) : TestsIn w' X' v ts :=
  ⟨h.1.kept hk (fun k hk' hs => (h.2 k hk').1 (hS k (h.2 k hk').2 hs)), fun k hk' => ⟨fun hx => (h.2 k hk').1 (hX k (h.2 k hk').2 hx), Nat.lt_of_lt_of_le (h.2 k hk').2 hk.size⟩⟩

theorem info_test : (Try.prog.info? 77).map (fun i => (i.zero, i.size, i.bytes)) = some (some (.agg #[.int .i64 0, .string ⟨#[]⟩, .string ⟨#[]⟩]), 3, 40) := by kernel_rfl
theorem test_rows {ts : List PTest} : ∀ r ∈ ts.map testCells, r.length = 3 := by
  intro r hr
  obtain ⟨a, _, rfl⟩ := List.mem_map.1 hr
  rfl
theorem zipRows {α : Type} {f : α → Value → List Value} {size : Nat} (hf : ∀ a v, (f a v).length = size) {xs : List α} {vs : List Value} : ∀ r ∈ List.zipWith f xs vs, r.length = size := by
  intro r hr
  obtain ⟨i, hi, rfl⟩ := List.mem_iff_getElem.1 hr
  simp [hf]
/-- rows whose cells lead on to more: v's rows are those of xs and vs, and each of vs reads as that of xs -/
def NestIn {α : Type} (f : α → Value → List Value) (size : Nat) (Q : World → (Nat → Prop) → Value → α → Prop) (w : World) (X : Nat → Prop) (v : Value) (xs : List α) : Prop :=
  ∃ vs : List Value, vs.length = xs.length ∧ RowsAt w size v (List.zipWith f xs vs) ∧ (∀ k, v.ownBlock = some k → ¬ X k ∧ k < w.heap.size) ∧ ∀ (i : Nat) (x : α) (u : Value), xs[i]? = some x → vs[i]? = some u → Q w X u x
/-- what is said of memory goes on to hold where nothing of it is written -/
def Lasts {α : Type} (Q : World → (Nat → Prop) → Value → α → Prop) : Prop :=
  ∀ (w w' : World) (X X' S : Nat → Prop) (v : Value) (x : α), Q w X v x → Kept S w w' → (∀ k, k < w.heap.size → S k → X k) → (∀ k, k < w.heap.size → X' k → X k) → Q w' X' v x
theorem tests_lasts : Lasts TestsIn := fun _ _ _ _ _ _ _ h hk hS hX => h.kept hk hS hX
theorem nest_lasts {α : Type} {f : α → Value → List Value} {size : Nat} {Q : World → (Nat → Prop) → Value → α → Prop} (hQ : Lasts Q) : Lasts (NestIn f size Q) := by
  intro w w' X X' S v xs ⟨vs, h1, h2, h3, h4⟩ hk hS hX
  exact ⟨vs, h1, h2.kept hk (fun k hk' hs => (h3 k hk').1 (hS k (h3 k hk').2 hs)), fun k hk' => ⟨fun hx => (h3 k hk').1 (hX k (h3 k hk').2 hx), Nat.lt_of_lt_of_le (h3 k hk').2 hk.size⟩,
    fun i x u hx hu => hQ _ _ _ _ _ _ _ (h4 i x u hx hu) hk hS hX⟩

/-- a row of one's own, that grows, whose cells lead on to more: all of it in blocks from 'base' on -/
structure NestOwn {α : Type} (f : α → Value → List Value) (size e : Nat) (Q : World → (Nat → Prop) → Value → α → Prop) (w : World) (base : Nat) (v : Value) (xs : List α) (vs : List Value) : Prop where
  len : vs.length = xs.length
  own : w.ownsRow base e size v xs.length (List.zipWith f xs vs).flatten
  nest : ∀ (i : Nat) (x : α) (u : Value), xs[i]? = some x → vs[i]? = some u → Q w (fun k => k < base ∨ v.ownBlock = some k) u x
section
variable {α : Type} {f : α → Value → List Value} {size e : Nat} {Q : World → (Nat → Prop) → Value → α → Prop} {w w' : World} {base b : Nat} {v v' : Value} {xs : List α} {vs : List Value}
theorem NestOwn.kept (h : NestOwn f size e Q w base v xs vs) (hQ : Lasts Q) (hb : b < base) (hk : Kept (· = b) w w') : NestOwn f size e Q w' base v xs vs :=
  ⟨h.len, owns_kept h.own hk (fun k hk => by have := (h.own.lt k hk).1; omega), fun i x u hx hu => hQ _ _ _ _ _ _ _ (h.nest i x u hx hu) hk (fun k _ hs => .inl (by have : k = b := hs; omega)) (fun k _ hx => hx)⟩
theorem NestOwn.alloc (h : NestOwn f size e Q w base v xs vs) (hQ : Lasts Q) (o : Obj) : NestOwn f size e Q (w.alloc o) base v xs vs :=
  ⟨h.len, h.own.alloc _, fun i x u hx hu => hQ _ _ _ _ (fun _ => False) _ _ (h.nest i x u hx hu) ((Kept.refl _ _).alloc _) (fun k _ hs => hs.elim) (fun k _ hx => hx)⟩
/-- a cell of another block that it does not hold is written -/
theorem NestOwn.other (h : NestOwn f size e Q w base v xs vs) (hQ : ∀ (u : Value) (x : α), u ∈ vs → Q w (fun k => k < base ∨ v.ownBlock = some k) u x → Q w' (fun k => k < base ∨ v.ownBlock = some k) u x) {S : Nat → Prop} (hk : Kept S w w') (hs : ∀ k, v.ownBlock = some k → ¬ S k) : NestOwn f size e Q w' base v xs vs :=
  ⟨h.len, owns_kept h.own hk hs, fun i x u hx hu => hQ u x (List.mem_of_getElem? hu) (h.nest i x u hx hu)⟩
theorem NestOwn.nil (w : World) (base : Nat) : NestOwn f size e Q w base (.slice none 0 0) [] [] := ⟨rfl, World.ownsRow_nil _ _ _ _, fun i x u hx => by simp at hx⟩
theorem NestOwn.form (h : NestOwn f size e Q w base v xs vs) : ∃ vo vc, v = .slice vo xs.length vc := by
  rcases h.own.2 with ⟨h, hn⟩ | ⟨g, cap, cur, h, _⟩
  · exact ⟨none, 0, by rw [h, hn]⟩
  · exact ⟨_, cap, h⟩
/-- one more, behind the others -/
theorem NestOwn.push {gg cap : Nat} {x : α} {u : Value} {o : Obj} (h : NestOwn f size e Q w base v xs vs) (hQ : Lasts Q) (hu : Q w (fun k => k < base ∨ v.ownBlock = some k) u x)
    (hown : w'.ownsRow base e size (.slice (some ⟨gg, 0, none⟩) (xs.length + 1) cap) (xs.length + 1) ((List.zipWith f xs vs).flatten ++ f x u)) (hg : (w.alloc o).grownBy w' v.ownBlock) (hat : v.ownBlock = some gg ∨ w.heap.size ≤ gg) :
    NestOwn f size e Q w' base (.slice (some ⟨gg, 0, none⟩) (xs.length + 1) cap) (xs ++ [x]) (vs ++ [u]) := by
  have hk : Kept (fun k => v.ownBlock = some k) w w' := ((Kept.refl _ w).alloc o).grown hg (fun k hk => .inl hk)
  have new : ∀ {y : α} {z : Value}, Q w (fun k => k < base ∨ v.ownBlock = some k) z y → Q w' (fun k => k < base ∨ (Value.slice (some ⟨gg, 0, none⟩) (xs.length + 1) cap).ownBlock = some k) z y := fun hq =>
    hQ _ _ _ _ _ _ _ hq hk (fun k _ hs => .inr hs) (fun k hlt hx => by
      rcases hx with hx | hx
      · exact .inl hx
      · simp only [Value.ownBlock, Option.some.injEq] at hx
        subst hx
        rcases hat with h1 | h1
        · exact .inr h1
        · omega)
  refine ⟨by simp [h.len], ?_, fun i y z hy hz => ?_⟩
  · rw [List.zipWith_append (by rw [h.len])]
    simpa using hown
  · by_cases hi : i < xs.length
    · rw [List.getElem?_append_left hi] at hy
      rw [List.getElem?_append_left (by rw [h.len]; exact hi)] at hz
      exact new (h.nest i y z hy hz)
    · have hi2 := (List.getElem?_eq_some_iff.1 hy).1
      simp at hi2
      have : i = xs.length := by omega
      subst this
      simp at hy
      rw [← h.len] at hz
      simp at hz
      subst hy; subst hz
      exact new hu
theorem NestOwn.done (h : NestOwn f size e Q w base v xs vs) (hf : ∀ a v, (f a v).length = size) (hQ : Lasts Q) : NestIn f size Q w (fun k => k < base) v xs :=
  ⟨vs, h.len, rowsAt_of_owns (zipRows hf) (by simp [h.len]) h.own, fun k hk => ⟨fun hx => by have := (h.own.lt k hk).1; omega, (h.own.lt k hk).2⟩,
    fun i x u hx hu => hQ _ _ _ _ (fun _ => False) _ _ (h.nest i x u hx hu) (Kept.refl _ _) (fun k _ hs => hs.elim) (fun k _ hx => .inl hx)⟩
end

def partCells (p : PPart) (v : Value) : List Value := [.int .i64 p.join, v]
def PartsIn (w : World) (X : Nat → Prop) (v : Value) (ps : List PPart) : Prop := NestIn partCells 2 (fun w X u (p : PPart) => TestsIn w X u p.tests) w X v ps
theorem part_lasts : Lasts (fun w X u (p : PPart) => TestsIn w X u p.tests) := fun _ _ _ _ _ _ _ h hk hS hX => TestsIn.kept h hk hS hX
theorem parts_lasts : Lasts PartsIn := nest_lasts part_lasts
def selCells (s : PSel) (v : Value) : List Value := [v]
def SelsIn (w : World) (X : Nat → Prop) (v : Value) (ss : List PSel) : Prop := NestIn selCells 1 PartsIn w X v ss
theorem sels_lasts : Lasts SelsIn := nest_lasts parts_lasts
def declCells (d : PDecl) : List Value := [.string (str d.name), .string (str d.val), .bool d.strong]
def DeclsIn (w : World) (X : Nat → Prop) (v : Value) (ds : List PDecl) : Prop := RowsAt w 3 v (ds.map declCells) ∧ ∀ k, v.ownBlock = some k → ¬ X k ∧ k < w.heap.size
theorem decls_lasts : Lasts DeclsIn := fun w w' X X' S v ds h hk hS hX =>
  ⟨h.1.kept hk (fun k hk' hs => (h.2 k hk').1 (hS k (h.2 k hk').2 hs)), fun k hk' => ⟨fun hx => (h.2 k hk').1 (hX k (h.2 k hk').2 hx), Nat.lt_of_lt_of_le (h.2 k hk').2 hk.size⟩⟩
/-- a rule's five cells: sv, dv: its selectors and its declarations; here as one value of two -/
def vFst : Value → Value
  | .tuple a => a.getD 0 (.bool false)
  | v => v
def vSnd : Value → Value
  | .tuple a => a.getD 1 (.bool false)
  | v => v
def ruleCells (r : PRule) (u : Value) : List Value := [.string (str r.media), vFst u, vSnd u, .int .i64 r.lo, .int .i64 r.hi]
def RuleIn (w : World) (X : Nat → Prop) (u : Value) (r : PRule) : Prop := ∃ sv dv, u = .tuple #[sv, dv] ∧ SelsIn w X sv r.sels ∧ DeclsIn w X dv r.decls
theorem rule_lasts : Lasts RuleIn := fun w w' X X' S u r ⟨sv, dv, h1, h2, h3⟩ hk hS hX => ⟨sv, dv, h1, sels_lasts _ _ _ _ _ _ _ h2 hk hS hX, decls_lasts _ _ _ _ _ _ _ h3 hk hS hX⟩
def RulesIn (w : World) (X : Nat → Prop) (v : Value) (rs : List PRule) : Prop := NestIn ruleCells 5 RuleIn w X v rs
theorem rules_lasts : Lasts RulesIn := nest_lasts rule_lasts
theorem ruleCells_len (r : PRule) (u : Value) : (ruleCells r u).length = 5 := rfl
theorem partCells_len (p : PPart) (u : Value) : (partCells p u).length = 2 := rfl
theorem selCells_len (p : PSel) (u : Value) : (selCells p u).length = 1 := rfl
theorem decl_rows {ds : List PDecl} : ∀ r ∈ ds.map declCells, r.length = 3 := by
  intro r hr
  obtain ⟨a, _, rfl⟩ := List.mem_map.1 hr
  rfl
theorem info_part : (Try.prog.info? 75).map (fun i => (i.zero, i.size, i.bytes)) = some (some (.agg #[.int .i64 0, .slice none 0 0]), 2, 32) := by kernel_rfl
theorem info_decl : (Try.prog.info? 62).map (fun i => (i.zero, i.size, i.bytes)) = some (some (.agg #[.string ⟨#[]⟩, .string ⟨#[]⟩, .bool false]), 3, 40) := by kernel_rfl
theorem info_rule : (Try.prog.info? 42).map (fun i => (i.zero, i.size, i.bytes)) = some (some (.agg #[.string ⟨#[]⟩, .slice none 0 0, .slice none 0 0, .int .i64 0, .int .i64 0]), 5, 80) := by kernel_rfl
theorem info_sel : (Try.prog.info? 59).map (fun i => (i.zero, i.size, i.bytes)) = some (some (.slice none 0 0), 1, 24) := by kernel_rfl
theorem info_str : (Try.prog.info? 9).map (fun i => (i.zero, i.size, i.bytes)) = some (some (.string ⟨#[]⟩), 1, 16) := by kernel_rfl

theorem RowsAt.at {w : World} {size : Nat} {a : Option Addr} {n cap : Nat} {rows : List (List Value)} (h : RowsAt w size (.slice a n cap) rows) {k : Nat} {r : List Value} (hx : rows[k]? = some r) :
    ∃ b off, a = some ⟨b, off, none⟩ ∧ ∀ j c, r[j]? = some c → w.cell? ⟨b, off + k * size + j, none⟩ = some c := by
  obtain ⟨a', cap', hv, h1, h2, h3⟩ := h
  simp only [Value.slice.injEq] at hv
  obtain ⟨rfl, _, _⟩ := hv
  obtain ⟨b, off, ha, h4⟩ := h3 (by intro hn; subst hn; simp at hx)
  exact ⟨b, off, ha, h4 k r hx⟩
theorem DeclsIn.form {w : World} {X : Nat → Prop} {v : Value} {ds : List PDecl} (h : DeclsIn w X v ds) : ∃ a cap, v = .slice a ds.length cap ∧ ds.length ≤ cap ∧ cap ≤ maxLen := by
  obtain ⟨a, cap, e, h1, h2, _⟩ := h.1
  exact ⟨a, cap, by rw [e, List.length_map], by simpa using h1, h2⟩
theorem DeclsIn.at {w : World} {X : Nat → Prop} {a : Option Addr} {n cap : Nat} {ds : List PDecl} (h : DeclsIn w X (.slice a n cap) ds) {k : Nat} {x : PDecl} (hx : ds[k]? = some x) :
    ∃ b off, a = some ⟨b, off, none⟩ ∧ w.cell? ⟨b, off + k * 3, none⟩ = some (.string (str x.name)) ∧ w.cell? ⟨b, off + k * 3 + 1, none⟩ = some (.string (str x.val)) ∧ w.cell? ⟨b, off + k * 3 + 2, none⟩ = some (.bool x.strong) := by
  obtain ⟨b, off, ha, h4⟩ := RowsAt.at h.1 (k := k) (r := declCells x) (by simp [hx])
  exact ⟨b, off, ha, h4 0 _ rfl, h4 1 _ rfl, h4 2 _ rfl⟩
theorem DeclsIn.quiet {w w' : World} {X : Nat → Prop} {v : Value} {ds : List PDecl} (h : DeclsIn w X v ds) (hq : Qt w w') : DeclsIn w' X v ds :=
  decls_lasts _ _ _ _ _ _ _ h (hq.kept (fun _ => False)) (fun _ _ h => h.elim) (fun _ _ h => h)
theorem TestsIn.form {w : World} {X : Nat → Prop} {v : Value} {ds : List PTest} (h : TestsIn w X v ds) : ∃ a cap, v = .slice a ds.length cap ∧ ds.length ≤ cap ∧ cap ≤ maxLen := by
  obtain ⟨a, cap, e, h1, h2, _⟩ := h.1
  exact ⟨a, cap, by rw [e, List.length_map], by simpa using h1, h2⟩
theorem TestsIn.at {w : World} {X : Nat → Prop} {a : Option Addr} {n cap : Nat} {ds : List PTest} (h : TestsIn w X (.slice a n cap) ds) {k : Nat} {x : PTest} (hx : ds[k]? = some x) :
    ∃ b off, a = some ⟨b, off, none⟩ ∧ ∀ j c, (testCells x)[j]? = some c → w.cell? ⟨b, off + k * 3 + j, none⟩ = some c :=
  RowsAt.at h.1 (k := k) (r := testCells x) (by simp [hx])
theorem TestsIn.quiet {w w' : World} {X : Nat → Prop} {v : Value} {ds : List PTest} (h : TestsIn w X v ds) (hq : Qt w w') : TestsIn w' X v ds :=
  tests_lasts _ _ _ _ _ _ _ h (hq.kept (fun _ => False)) (fun _ _ h => h.elim) (fun _ _ h => h)
section
variable {α : Type} {f : α → Value → List Value} {size : Nat} {Q : World → (Nat → Prop) → Value → α → Prop} {w w' : World} {X : Nat → Prop} {v : Value} {xs : List α}
theorem NestIn.form (h : NestIn f size Q w X v xs) : ∃ a cap, v = .slice a xs.length cap ∧ xs.length ≤ cap ∧ cap ≤ maxLen := by
  obtain ⟨vs, h0, ⟨a, cap, e, h1, h2, _⟩, _⟩ := h
  exact ⟨a, cap, by rw [e]; simp [h0], by simpa [h0] using h1, h2⟩
theorem NestIn.at {a : Option Addr} {n cap : Nat} (h : NestIn f size Q w X (.slice a n cap) xs) {k : Nat} {x : α} (hx : xs[k]? = some x) :
    ∃ b off u, a = some ⟨b, off, none⟩ ∧ (∀ j c, (f x u)[j]? = some c → w.cell? ⟨b, off + k * size + j, none⟩ = some c) ∧ Q w X u x := by
  obtain ⟨vs, h0, h1, _, h4⟩ := h
  have hk := (List.getElem?_eq_some_iff.1 hx).1
  have hu : vs[k]? = some (vs[k]'(by omega)) := List.getElem?_eq_getElem _
  obtain ⟨b, off, ha, h5⟩ := RowsAt.at h1 (k := k) (r := f x (vs[k]'(by omega))) (by simp [List.getElem?_zipWith, hx, hu])
  exact ⟨b, off, _, ha, h5, h4 k x _ hx hu⟩
theorem NestIn.quiet (hQ : Lasts Q) (h : NestIn f size Q w X v xs) (hq : Qt w w') : NestIn f size Q w' X v xs :=
  nest_lasts hQ _ _ _ _ _ _ _ h (hq.kept (fun _ => False)) (fun _ _ h => h.elim) (fun _ _ h => h)
end


end Go.Proofs.Ytplbdlgmjehckab
