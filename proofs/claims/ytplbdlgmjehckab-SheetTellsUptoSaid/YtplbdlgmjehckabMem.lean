/-
  Memory, for any program: which blocks a call leaves alone ('Kept'), rows of cells, quiet calls.
-/
import Derived.Test.YtplbdlgmjehckabTxt
import Derived.Test.YtplbdlgmjehckabKit
import Derived.Deep.QuietTactic
namespace Go.Proofs.Ytplbdlgmjehckab
open Go.RowKit
set_option linter.unusedVariables false
set_option linter.unusedSimpArgs false

/-- But for the blocks of S (and new ones) the world is as it was. -/
structure Kept (S : Nat → Prop) (w w' : World) : Prop where
  os : w'.os = w.os
  tape : w'.tape = w.tape
  output : w'.output = w.output
  size : w.heap.size ≤ w'.heap.size
  block : ∀ k, k < w.heap.size → ¬ S k → w'.heap[k]? = w.heap[k]?

theorem Kept.refl (S : Nat → Prop) (w : World) : Kept S w w := ⟨rfl, rfl, rfl, Nat.le_refl _, fun _ _ _ => rfl⟩
theorem Kept.trans {S : Nat → Prop} {a b c : World} (h : Kept S a b) (k : Kept S b c) : Kept S a c :=
  ⟨k.os.trans h.os, k.tape.trans h.tape, k.output.trans h.output, Nat.le_trans h.size k.size,
    fun i hi hs => (k.block i (Nat.lt_of_lt_of_le hi h.size) hs).trans (h.block i hi hs)⟩
/-- a step that may write to blocks that are new since a, too -/
theorem Kept.trans' {S T : Nat → Prop} {a b c : World} (h : Kept S a b) (k : Kept T b c) (hT : ∀ i, i < a.heap.size → T i → S i) : Kept S a c :=
  ⟨k.os.trans h.os, k.tape.trans h.tape, k.output.trans h.output, Nat.le_trans h.size k.size,
    fun i hi hs => (k.block i (Nat.lt_of_lt_of_le hi h.size) (fun ht => hs (hT i hi ht))).trans (h.block i hi hs)⟩
theorem Kept.mono {S T : Nat → Prop} {a b : World} (h : Kept S a b) (hs : ∀ k, k < a.heap.size → S k → T k) : Kept T a b :=
  ⟨h.os, h.tape, h.output, h.size, fun i hi ht => h.block i hi (fun x => ht (hs i hi x))⟩
theorem Kept.drewN {S : Nat → Prop} {a b : World} (h : Kept S a b) (n : Nat) : Kept S a (b.drewN n) := ⟨h.os, h.tape, h.output, h.size, h.block⟩
theorem Kept.drew {S : Nat → Prop} {a b : World} (h : Kept S a b) : Kept S a b.drew := ⟨h.os, h.tape, h.output, h.size, h.block⟩
theorem Kept.alloc {S : Nat → Prop} {a b : World} (h : Kept S a b) (o : Obj) : Kept S a (b.alloc o) :=
  h.trans ⟨rfl, rfl, rfl, by simp, fun k hk _ => Below.heap_alloc _ _ _ hk⟩
theorem Kept.setCell {S : Nat → Prop} {a b : World} (h : Kept S a b) {p : Addr} (hp : S p.block ∨ a.heap.size ≤ p.block) (u : Value) : Kept S a (b.setCell p u) :=
  ⟨h.os, h.tape, h.output, by simpa [World.setCell] using h.size, fun i hi hs => (Below.heap_setCell b p u i (by
    rintro rfl
    rcases hp with hp | hp
    · exact hs hp
    · omega)).trans (h.block i hi hs)⟩
theorem Kept.grown {S : Nat → Prop} {a b c : World} {row : Option Nat} (h : Kept S a b) (hg : b.grownBy c row) (hr : ∀ k, row = some k → S k ∨ a.heap.size ≤ k) : Kept S a c :=
  ⟨hg.os.trans h.os, hg.tape.trans h.tape, hg.output.trans h.output, Nat.le_trans h.size hg.size,
    fun i hi hs => (hg.block i (Nat.lt_of_lt_of_le hi h.size) (fun e => by
      rcases hr i e.symm with x | x
      · exact hs x
      · omega)).trans (h.block i hi hs)⟩
theorem Kept.below {a b : World} (h : Kept (fun _ => False) a b) : Below a.heap.size a b := ⟨h.os, h.tape, h.output, h.size, fun k hk => h.block k hk id⟩
theorem Kept.of_below {S : Nat → Prop} {a b : World} (h : Below a.heap.size a b) : Kept S a b := ⟨h.os, h.tape, h.output, h.size, fun k hk _ => h.block k hk⟩
theorem Kept.cell {S : Nat → Prop} {a b : World} (h : Kept S a b) {p : Addr} {v : Value} (hs : ¬ S p.block) (hc : a.cell? p = some v) : b.cell? p = some v :=
  (World.cell?_of_block (h.block p.block (World.block_lt_of_cell? a p hc) hs)).trans hc
theorem Kept.frozen {S : Nat → Prop} {a b : World} (h : Kept S a b) {p : Addr} (hs : ¬ S p.block) (hl : p.block < a.heap.size) {x : Bool} (hc : a.frozen? p = x) : b.frozen? p = x :=
  (World.frozen?_of_block (h.block p.block hl hs)).trans hc
theorem Kept.heap {S : Nat → Prop} {a b : World} (h : Kept S a b) {k : Nat} {o : Obj} (hs : ¬ S k) (hc : a.heap[k]? = some o) : b.heap[k]? = some o :=
  (h.block k (Array.getElem?_eq_some_iff.1 hc).1 hs).trans hc

/-- quiet: only draws -/
def Qt (w w' : World) : Prop := ∃ n, w' = w.drewN n
theorem Qt.refl (w : World) : Qt w w := ⟨0, rfl⟩
theorem Qt.kept {w w' : World} (h : Qt w w') (S : Nat → Prop) : Kept S w w' := by obtain ⟨n, rfl⟩ := h; exact (Kept.refl S w).drewN n
theorem Qt.trans {a b c : World} (h : Qt a b) (k : Qt b c) : Qt a c := by
  obtain ⟨n, rfl⟩ := h; obtain ⟨m, rfl⟩ := k; exact ⟨n + m, by rw [World.drewN_drewN]⟩
theorem Qt.heap {w w' : World} (h : Qt w w') : w'.heap = w.heap := by obtain ⟨n, rfl⟩ := h; rfl

/-! ### a block that is known whole -/
theorem cellIn {w : World} {b : Nat} {cs : Array Value} {t : TypeId} {fz : Nat × Nat} (h : w.heap[b]? = some (.cells cs t fz)) (k : Nat) {v : Value} (hv : cs[k]? = some v) :
    w.cell? ⟨b, k, none⟩ = some v := (cell_of_row w b k cs t fz h).trans hv
theorem freeIn {w : World} {b : Nat} {cs : Array Value} {t : TypeId} (h : w.heap[b]? = some (.cells cs t (0, 0))) (k : Nat) : w.frozen? ⟨b, k, none⟩ = false := by
  simp [World.frozen?, h]
theorem ltIn {w : World} {b : Nat} {o : Obj} (h : w.heap[b]? = some o) : b < w.heap.size := (Array.getElem?_eq_some_iff.1 h).1
theorem setIn {w : World} {b : Nat} {cs : Array Value} {t : TypeId} {fz : Nat × Nat} (h : w.heap[b]? = some (.cells cs t fz)) (k : Nat) (v : Value) :
    (w.setCell ⟨b, k, none⟩ v).heap[b]? = some (.cells (cs.setIfInBounds k v) t fz) := by
  simp [World.setCell, Array.getElem?_modify, h]
theorem newIn (w : World) (o : Obj) : (w.alloc o).heap[w.heap.size]? = some o := heap_alloc_new w o
theorem oldIn {w : World} {b : Nat} {o : Obj} (h : w.heap[b]? = some o) (o' : Obj) : (w.alloc o').heap[b]? = some o := (heap_alloc_old w o' (ltIn h)).trans h
theorem cell_alloc {w : World} {a : Addr} {v : Value} (h : w.cell? a = some v) (o : Obj) : (w.alloc o).cell? a = some v := (World.cell?_alloc_lt w o a (World.block_lt_of_cell? w a h)).trans h
theorem frozen_alloc' {w : World} {a : Addr} {x : Bool} (hl : a.block < w.heap.size) (h : w.frozen? a = x) (o : Obj) : (w.alloc o).frozen? a = x := (World.frozen?_alloc_old w o a (Nat.ne_of_lt hl)).trans h
theorem otherIn {w : World} {b : Nat} {o : Obj} (h : w.heap[b]? = some o) (p : Addr) (v : Value) (hp : b ≠ p.block) : (w.setCell p v).heap[b]? = some o := (Below.heap_setCell w p v b hp).trans h

/-! ### slices whose elements are rows of cells -/
/-- v is a slice of these rows, each of 'size' cells -/
def RowsAt (w : World) (size : Nat) (v : Value) (rows : List (List Value)) : Prop :=
  ∃ a cap, v = .slice a rows.length cap ∧ rows.length ≤ cap ∧ cap ≤ maxLen ∧ (rows ≠ [] → ∃ b off, a = some ⟨b, off, none⟩ ∧
    ∀ i r, rows[i]? = some r → ∀ j c, r[j]? = some c → w.cell? ⟨b, off + i * size + j, none⟩ = some c)

theorem RowsAt.kept {w w' : World} {size : Nat} {v : Value} {rows : List (List Value)} {S : Nat → Prop} (h : RowsAt w size v rows) (hk : Kept S w w')
    (hs : ∀ k, v.ownBlock = some k → ¬ S k) : RowsAt w' size v rows := by
  obtain ⟨a, cap, rfl, h1, h2, h3⟩ := h
  refine ⟨a, cap, rfl, h1, h2, fun hne => ?_⟩
  obtain ⟨b, off, rfl, h4⟩ := h3 hne
  exact ⟨b, off, rfl, fun i r hr j c hc => hk.cell (hs b rfl) (h4 i r hr j c hc)⟩

theorem RowsAt.below {w w' : World} {size : Nat} {v : Value} {rows : List (List Value)} (h : RowsAt w size v rows) (hb : Below w.heap.size w w') : RowsAt w' size v rows :=
  h.kept (S := fun _ => False) (Kept.of_below hb) (fun _ _ => id)

theorem RowsAt.quiet {w w' : World} {size : Nat} {v : Value} {rows : List (List Value)} (h : RowsAt w size v rows) (hk : Qt w w') : RowsAt w' size v rows :=
  h.kept (S := fun _ => False) (hk.kept _) (fun _ _ => id)

theorem RowsAt.alloc {w : World} {size : Nat} {v : Value} {rows : List (List Value)} (h : RowsAt w size v rows) (o : Obj) : RowsAt (w.alloc o) size v rows :=
  h.kept (S := fun _ => False) ((Kept.refl _ w).alloc o) (fun _ _ => id)
theorem RowsAt.nil (w : World) (size : Nat) : RowsAt w size (.slice none 0 0) [] := ⟨none, 0, rfl, Nat.le_refl _, by simp [maxLen], fun h => absurd rfl h⟩

theorem flatten_get (size : Nat) : ∀ (rows : List (List Value)), (∀ r ∈ rows, r.length = size) → ∀ i r, rows[i]? = some r → ∀ j c, r[j]? = some c → rows.flatten[i * size + j]? = some c
  | [], _, i, r, h, _, _, _ => by simp at h
  | r0 :: rows, hl, i, r, h, j, c, hc => by
    have h0 := hl r0 (by simp)
    cases i with
    | zero =>
      simp at h; subst h
      have : j < r0.length := (List.getElem?_eq_some_iff.1 hc).1
      simp only [Nat.zero_mul, Nat.zero_add, List.flatten_cons]
      rw [List.getElem?_append_left this]; exact hc
    | succ i =>
      simp only [List.getElem?_cons_succ] at h
      have := flatten_get size rows (fun r hr => hl r (by simp [hr])) i r h j c hc
      simp only [List.flatten_cons]
      rw [List.getElem?_append_right (by rw [h0, Nat.succ_mul]; omega), h0]
      rw [show (i + 1) * size + j - size = i * size + j from by rw [Nat.succ_mul]; omega]
      exact this

theorem owns_kept {w w' : World} {S : Nat → Prop} {base e size n : Nat} {v : Value} {xs : List Value} (h : w.ownsRow base e size v n xs) (hk : Kept S w w') (hs : ∀ k, v.ownBlock = some k → ¬ S k) :
    w'.ownsRow base e size v n xs := by
  refine ⟨h.1, ?_⟩
  rcases h.2 with x | ⟨g, cap, cur, hv, hg, hh, rest⟩
  · exact .inl x
  · exact .inr ⟨g, cap, cur, hv, hg, hk.heap (hs g (by rw [hv]; rfl)) hh, rest⟩

theorem rowsAt_of_owns {w : World} {base e size n : Nat} {v : Value} {rows : List (List Value)} (hl : ∀ r ∈ rows, r.length = size) (hn : n = rows.length)
    (h : w.ownsRow base e size v n rows.flatten) : RowsAt w size v rows := by
  subst hn
  rcases h.2 with ⟨rfl, hn⟩ | ⟨g, cap, cur, rfl, hb, hg, hnc, hcm, hcs, htake⟩
  · have : rows = [] := List.length_eq_zero_iff.1 hn
    subst this
    exact RowsAt.nil w size
  · refine ⟨_, cap, rfl, hnc, hcm, fun _ => ⟨g, 0, rfl, fun i r hr j c hc => ?_⟩⟩
    have := flatten_get size rows hl i r hr j c hc
    rw [← htake] at this
    have hlt : i * size + j < rows.length * size := by
      have := (List.getElem?_eq_some_iff.1 this).1
      simp only [List.length_take] at this
      omega
    rw [List.getElem?_take, if_pos hlt] at this
    rw [cell_of_row w g _ cur e (0, 0) hg, Nat.zero_add]
    simpa using this

end Go.Proofs.Ytplbdlgmjehckab
