/-
  Elements as they lie in memory.
-/
import Derived.Test.YtplbdlgmjehckabMem
import Derived.Test.YtplbdlgmjehckabPgSpec
namespace Go.Proofs.Ytplbdlgmjehckab
open Go.RowKit
set_option linter.unusedVariables false
set_option linter.unusedSimpArgs false

def attrCells (a : PAttr) : List Value := [.string (str a.name), .string (str a.val), .int .i64 a.lo, .int .i64 a.hi]
def AttrsAt (w : World) (v : Value) (al : List PAttr) : Prop := RowsAt w 4 v (al.map attrCells)

theorem AttrsAt.form {w : World} {v : Value} {al : List PAttr} (h : AttrsAt w v al) : ∃ a cap, v = .slice a al.length cap ∧ al.length ≤ cap ∧ cap ≤ maxLen := by
  obtain ⟨a, cap, hv, h1, h2, h3⟩ := h
  simp only [List.length_map] at hv h1
  exact ⟨a, cap, hv, h1, h2⟩
theorem AttrsAt.at {w : World} {a : Option Addr} {n cap : Nat} {al : List PAttr} (h : AttrsAt w (.slice a n cap) al) {k : Nat} {x : PAttr} (hx : al[k]? = some x) :
    ∃ b off, a = some ⟨b, off, none⟩ ∧ w.cell? ⟨b, off + k * 4, none⟩ = some (.string (str x.name)) ∧ w.cell? ⟨b, off + k * 4 + 1, none⟩ = some (.string (str x.val)) ∧
      w.cell? ⟨b, off + k * 4 + 2, none⟩ = some (.int .i64 x.lo) ∧ w.cell? ⟨b, off + k * 4 + 3, none⟩ = some (.int .i64 x.hi) := by
  obtain ⟨a', cap', hv, h1, h2, h3⟩ := h
  simp only [Value.slice.injEq] at hv
  obtain ⟨rfl, _, _⟩ := hv
  obtain ⟨b, off, ha, h4⟩ := h3 (by intro hn; rw [List.map_eq_nil_iff] at hn; subst hn; simp at hx)
  have := h4 k (attrCells x) (by simp [hx])
  exact ⟨b, off, ha, this 0 _ rfl, this 1 _ rfl, this 2 _ rfl, this 3 _ rfl⟩

theorem AttrsAt.qt {w w' : World} {v : Value} {al : List PAttr} (h : AttrsAt w v al) (hq : Qt w w') : AttrsAt w' v al := RowsAt.quiet h hq

def nodeCells (n : PNode) (av : Value) : List Value := [.string (str n.name), .int .i64 n.parent, av, .int .i64 n.nameEnd, .int .i64 n.inF, .int .i64 n.inT]

theorem zip_rows {ns : List PNode} {avs : List Value} : ∀ r ∈ List.zipWith nodeCells ns avs, r.length = 6 := by
  intro r hr
  obtain ⟨i, hi, rfl⟩ := List.mem_iff_getElem.1 hr
  simp [nodeCells]

/-- v reads as the elements ns -/
def NodesAt (w : World) (v : Value) (ns : List PNode) : Prop :=
  ∃ avs : List Value, avs.length = ns.length ∧ RowsAt w 6 v (List.zipWith nodeCells ns avs) ∧ ∀ (i : Nat) (n : PNode) (av : Value), ns[i]? = some n → avs[i]? = some av → AttrsAt w av n.attrs

theorem NodesAt.kept {w w' : World} {v : Value} {ns : List PNode} (h : NodesAt w v ns) (hb : Below w.heap.size w w') : NodesAt w' v ns := by
  obtain ⟨avs, h1, h2, h3⟩ := h
  exact ⟨avs, h1, h2.below hb, fun i n av hn ha => (h3 i n av hn ha).below hb⟩

theorem NodesAt.form {w : World} {v : Value} {ns : List PNode} (h : NodesAt w v ns) : ∃ a cap, v = .slice a ns.length cap ∧ ns.length ≤ cap ∧ cap ≤ maxLen := by
  obtain ⟨avs, h1, ⟨a, cap, hv, h2, h3, _⟩, _⟩ := h
  have e : (List.zipWith nodeCells ns avs).length = ns.length := by simp [h1]
  rw [e] at hv h2
  exact ⟨a, cap, hv, h2, h3⟩
theorem NodesAt.at {w : World} {a : Option Addr} {n cap : Nat} {ns : List PNode} (h : NodesAt w (.slice a n cap) ns) {k : Nat} {x : PNode} (hx : ns[k]? = some x) :
    ∃ b off av, a = some ⟨b, off, none⟩ ∧ w.cell? ⟨b, off + k * 6, none⟩ = some (.string (str x.name)) ∧ w.cell? ⟨b, off + k * 6 + 1, none⟩ = some (.int .i64 x.parent) ∧
      w.cell? ⟨b, off + k * 6 + 2, none⟩ = some av ∧ w.cell? ⟨b, off + k * 6 + 3, none⟩ = some (.int .i64 x.nameEnd) ∧ w.cell? ⟨b, off + k * 6 + 4, none⟩ = some (.int .i64 x.inF) ∧
      w.cell? ⟨b, off + k * 6 + 5, none⟩ = some (.int .i64 x.inT) ∧ AttrsAt w av x.attrs := by
  obtain ⟨avs, h1, ⟨a', cap', hv, h2, h3, h4⟩, h5⟩ := h
  simp only [Value.slice.injEq] at hv
  obtain ⟨rfl, _, _⟩ := hv
  have hk := (List.getElem?_eq_some_iff.1 hx).1
  have ha : avs[k]? = some (avs[k]'(by omega)) := List.getElem?_eq_getElem _
  have hz : (List.zipWith nodeCells ns avs)[k]? = some (nodeCells x (avs[k]'(by omega))) := by simp [List.getElem?_zipWith, hx, ha]
  obtain ⟨b, off, rfl, h6⟩ := h4 (by intro hn; rw [hn] at hz; simp at hz)
  have := h6 k _ hz
  exact ⟨b, off, _, rfl, this 0 _ rfl, this 1 _ rfl, this 2 _ rfl, this 3 _ rfl, this 4 _ rfl, this 5 _ rfl, h5 k x _ hx ha⟩
theorem NodesAt.quiet {w w' : World} {v : Value} {ns : List PNode} (h : NodesAt w v ns) (hq : Qt w w') : NodesAt w' v ns := h.kept ((hq.kept (fun _ => False)).below)


end Go.Proofs.Ytplbdlgmjehckab
