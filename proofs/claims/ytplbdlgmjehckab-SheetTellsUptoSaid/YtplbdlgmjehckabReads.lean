/-
  What is only read: rows of cells that lead on to more, whichever blocks they lie in.
-/
import Derived.Test.YtplbdlgmjehckabShCells
import Derived.Test.YtplbdlgmjehckabNdMem
namespace Go.Proofs.Ytplbdlgmjehckab
open Go.RowKit
set_option linter.unusedVariables false
set_option linter.unusedSimpArgs false

def NestAt {α : Type} (f : α → Value → List Value) (size : Nat) (Q : World → Value → α → Prop) (w : World) (v : Value) (xs : List α) : Prop :=
  ∃ vs : List Value, vs.length = xs.length ∧ RowsAt w size v (List.zipWith f xs vs) ∧ ∀ (i : Nat) (x : α) (u : Value), xs[i]? = some x → vs[i]? = some u → Q w u x
/-- what is said of memory goes on to hold where no old memory is written -/
def Firm {α : Type} (Q : World → Value → α → Prop) : Prop := ∀ (w w' : World) (u : Value) (x : α), Q w u x → Below w.heap.size w w' → Q w' u x
theorem rows_firm (size : Nat) {α : Type} (f : α → List (List Value)) : Firm (fun w u (x : α) => RowsAt w size u (f x)) := fun _ _ _ _ h hb => h.below hb
theorem nest_firm {α : Type} {f : α → Value → List Value} {size : Nat} {Q : World → Value → α → Prop} (hQ : Firm Q) : Firm (NestAt f size Q) := by
  intro w w' v xs ⟨vs, h1, h2, h3⟩ hb
  exact ⟨vs, h1, h2.below hb, fun i x u hx hu => hQ _ _ _ _ (h3 i x u hx hu) hb⟩
theorem Firm.quiet {α : Type} {Q : World → Value → α → Prop} (hQ : Firm Q) {w w' : World} {u : Value} {x : α} (h : Q w u x) (hq : Qt w w') : Q w' u x := hQ _ _ _ _ h ((hq.kept (fun _ => False)).below)
theorem Firm.kept {α : Type} {Q : World → Value → α → Prop} (hQ : Firm Q) {w w' : World} {u : Value} {x : α} (h : Q w u x) (hq : Kept (fun _ => False) w w') : Q w' u x := hQ _ _ _ _ h hq.below
section
variable {α : Type} {f : α → Value → List Value} {size : Nat} {Q : World → Value → α → Prop} {w w' : World} {v : Value} {xs : List α}
theorem NestAt.form (h : NestAt f size Q w v xs) : ∃ a cap, v = .slice a xs.length cap ∧ xs.length ≤ cap ∧ cap ≤ maxLen := by
  obtain ⟨vs, h0, ⟨a, cap, e, h1, h2, _⟩, _⟩ := h
  exact ⟨a, cap, by rw [e]; simp [h0], by simpa [h0] using h1, h2⟩
theorem NestAt.at {a : Option Addr} {n cap : Nat} (h : NestAt f size Q w (.slice a n cap) xs) {k : Nat} {x : α} (hx : xs[k]? = some x) :
    ∃ b off u, a = some ⟨b, off, none⟩ ∧ (∀ j c, (f x u)[j]? = some c → w.cell? ⟨b, off + k * size + j, none⟩ = some c) ∧ Q w u x := by
  obtain ⟨vs, h0, h1, h4⟩ := h
  have hk := (List.getElem?_eq_some_iff.1 hx).1
  have hu : vs[k]? = some (vs[k]'(by omega)) := List.getElem?_eq_getElem _
  obtain ⟨b, off, ha, h5⟩ := RowsAt.at h1 (k := k) (r := f x (vs[k]'(by omega))) (by simp [List.getElem?_zipWith, hx, hu])
  exact ⟨b, off, _, ha, h5, h4 k x _ hx hu⟩
end

def DeclsAt (w : World) (v : Value) (ds : List PDecl) : Prop := RowsAt w 3 v (ds.map declCells)
def TestsAt (w : World) (v : Value) (ts : List PTest) : Prop := RowsAt w 3 v (ts.map testCells)
def PartsAt (w : World) (v : Value) (ps : List PPart) : Prop := NestAt partCells 2 (fun w u (p : PPart) => TestsAt w u p.tests) w v ps
def SelsAt (w : World) (v : Value) (ss : List PSel) : Prop := NestAt selCells 1 PartsAt w v ss
def RuleAt (w : World) (u : Value) (r : PRule) : Prop := ∃ sv dv, u = .tuple #[sv, dv] ∧ SelsAt w sv r.sels ∧ DeclsAt w dv r.decls
def RulesAt (w : World) (v : Value) (rs : List PRule) : Prop := NestAt ruleCells 5 RuleAt w v rs
def StrsAt (w : World) (v : Value) (ss : List B) : Prop := RowsAt w 1 v (ss.map fun x => [Value.string (str x)])
theorem decls_firm : Firm DeclsAt := fun _ _ _ _ h hb => RowsAt.below h hb
theorem tests_firm : Firm TestsAt := fun _ _ _ _ h hb => RowsAt.below h hb
theorem strs_firm : Firm StrsAt := fun _ _ _ _ h hb => RowsAt.below h hb
theorem part_firm : Firm (fun w u (p : PPart) => TestsAt w u p.tests) := fun _ _ _ _ h hb => RowsAt.below h hb
theorem parts_firm : Firm PartsAt := nest_firm part_firm
theorem sels_firm : Firm SelsAt := nest_firm parts_firm
theorem rule_firm : Firm RuleAt := fun _ _ _ _ ⟨sv, dv, h1, h2, h3⟩ hb => ⟨sv, dv, h1, sels_firm _ _ _ _ h2 hb, decls_firm _ _ _ _ h3 hb⟩
theorem rules_firm : Firm RulesAt := nest_firm rule_firm
theorem nodes_firm : Firm NodesAt := fun _ _ _ _ h hb => h.kept hb
theorem NestIn.reads {α : Type} {f : α → Value → List Value} {size : Nat} {Q : World → (Nat → Prop) → Value → α → Prop} {Q' : World → Value → α → Prop} (hQ : ∀ w X u x, Q w X u x → Q' w u x) {w : World} {X : Nat → Prop} {v : Value} {xs : List α} (h : NestIn f size Q w X v xs) : NestAt f size Q' w v xs := by
  obtain ⟨vs, h0, h1, _, h4⟩ := h
  exact ⟨vs, h0, h1, fun i x u hx hu => hQ _ _ _ _ (h4 i x u hx hu)⟩
theorem parts_reads {w : World} {X : Nat → Prop} {v : Value} {ps : List PPart} (h : PartsIn w X v ps) : PartsAt w v ps := h.reads (fun _ _ _ _ h => h.1)
theorem sels_reads {w : World} {X : Nat → Prop} {v : Value} {ss : List PSel} (h : SelsIn w X v ss) : SelsAt w v ss := h.reads (fun _ _ _ _ h => parts_reads h)
theorem rule_reads {w : World} {X : Nat → Prop} {u : Value} {r : PRule} (h : RuleIn w X u r) : RuleAt w u r := by
  obtain ⟨sv, dv, h1, h2, h3⟩ := h
  exact ⟨sv, dv, h1, sels_reads h2, h3.1⟩
theorem rules_reads {w : World} {X : Nat → Prop} {v : Value} {rs : List PRule} (h : RulesIn w X v rs) : RulesAt w v rs := h.reads (fun _ _ _ _ h => rule_reads h)
section
variable {w w' : World} {v : Value} {ds : List PDecl} {ts : List PTest} {ss : List B}
theorem DeclsAt.form (h : DeclsAt w v ds) : ∃ a cap, v = .slice a ds.length cap ∧ ds.length ≤ cap ∧ cap ≤ maxLen := by
  obtain ⟨a, cap, e, h1, h2, _⟩ := h
  exact ⟨a, cap, by rw [e, List.length_map], by simpa using h1, h2⟩
theorem DeclsAt.at {a : Option Addr} {n cap : Nat} (h : DeclsAt w (.slice a n cap) ds) {k : Nat} {x : PDecl} (hx : ds[k]? = some x) :
    ∃ b off, a = some ⟨b, off, none⟩ ∧ w.cell? ⟨b, off + k * 3, none⟩ = some (.string (str x.name)) ∧ w.cell? ⟨b, off + k * 3 + 1, none⟩ = some (.string (str x.val)) ∧ w.cell? ⟨b, off + k * 3 + 2, none⟩ = some (.bool x.strong) := by
  obtain ⟨b, off, ha, h4⟩ := RowsAt.at h (k := k) (r := declCells x) (by simp [hx])
  exact ⟨b, off, ha, h4 0 _ rfl, h4 1 _ rfl, h4 2 _ rfl⟩
theorem TestsAt.form (h : TestsAt w v ts) : ∃ a cap, v = .slice a ts.length cap ∧ ts.length ≤ cap ∧ cap ≤ maxLen := by
  obtain ⟨a, cap, e, h1, h2, _⟩ := h
  exact ⟨a, cap, by rw [e, List.length_map], by simpa using h1, h2⟩
theorem TestsAt.at {a : Option Addr} {n cap : Nat} (h : TestsAt w (.slice a n cap) ts) {k : Nat} {x : PTest} (hx : ts[k]? = some x) :
    ∃ b off, a = some ⟨b, off, none⟩ ∧ w.cell? ⟨b, off + k * 3, none⟩ = some (.int .i64 x.kind) ∧ w.cell? ⟨b, off + k * 3 + 1, none⟩ = some (.string (str x.name)) ∧ w.cell? ⟨b, off + k * 3 + 2, none⟩ = some (.string (str x.val)) := by
  obtain ⟨b, off, ha, h4⟩ := RowsAt.at h (k := k) (r := testCells x) (by simp [hx])
  exact ⟨b, off, ha, h4 0 _ rfl, h4 1 _ rfl, h4 2 _ rfl⟩
theorem StrsAt.form (h : StrsAt w v ss) : ∃ a cap, v = .slice a ss.length cap ∧ ss.length ≤ cap ∧ cap ≤ maxLen := by
  obtain ⟨a, cap, e, h1, h2, _⟩ := h
  exact ⟨a, cap, by rw [e, List.length_map], by simpa using h1, h2⟩
theorem StrsAt.at {a : Option Addr} {n cap : Nat} (h : StrsAt w (.slice a n cap) ss) {k : Nat} {x : B} (hx : ss[k]? = some x) :
    ∃ b off, a = some ⟨b, off, none⟩ ∧ w.cell? ⟨b, off + k, none⟩ = some (.string (str x)) := by
  obtain ⟨b, off, ha, h4⟩ := RowsAt.at h (k := k) (r := [Value.string (str x)]) (by simp [hx])
  exact ⟨b, off, ha, by simpa using h4 0 _ rfl⟩
end
end Go.Proofs.Ytplbdlgmjehckab
