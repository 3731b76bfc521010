/-
  Lemmas for the claims of this seat: the program's functions walked, and plain laws. In this order: Kit Mem Ret Str ShWalk Named ShName ShCells ShBase.
-/
import Derived.Test.YtplbdlgmjehckadGreatDoorRows
import Derived.WalkKit
import Derived.WalkSpells
import Derived.WalkLawsBesides
import Derived.BigQuiet
import Derived.Lib.Hide
import Derived.Deep.DeepFit
import Derived.Outline
import Derived.Handy
import Derived.ProofKit
import Derived.OpenShut
import Derived.Test.YtplbdlgmjehckadGreatDoorPk1
import Derived.Deep.QuietTactic
import Derived.Test.YtplbdlgmjehckadGreatDoorShelf
import Derived.Test.YtplbdlgmjehckadGreatDoorPk2
import Derived.Deep.DeepCutAuto
import Derived.Deep.CutBlock
import Derived.Deep.Light
import Derived.IntWalk
import Derived.Deep.AppendLies
import Derived.Deep.LoopGhost
namespace Go.Proofs.YtplbdlgmjehckadGreatDoor
open Go.RowKit Go.ChangeShapes Go.WideShapes Go.ChangeAt
theorem trodAll_below {H : Type} {enc : TypeId × Value → H} {P : Program} (hl : laidOutB P = true) {W W' : World} (hb : Below W.heap.size W W') :
    ∀ (ts : List TypeId) (vs : List Value) (ds : List (DataW H)) (ps : List MemPlace), (∀ t ∈ ts, P.readableRec t = true ∧ t < P.types.size) → (∀ x ∈ ps, x.block < W.heap.size) →
      DataW.TrodAll enc P W 0 (fun _ => true) true ts vs ds ps → DataW.TrodAll enc P W' 0 (fun b => decide (b < W.heap.size)) true ts vs ds ps
  | [], [], [], _, _, _, h => h
  | t :: ts, v :: vs, d :: ds, ps, hr, hlt, h => by
    obtain ⟨p, q, h1, h2, rfl⟩ := h
    exact ⟨p, q, h1 |> fun h1 => hb |> fun hb => Below.trod hl (hr t (by simp)).1 (hr t (by simp)).2 h1 hb (fun x hx => hlt x (by simp [hx])),
      trodAll_below hl hb ts vs ds q (fun t ht => hr t (by simp [ht])) (fun x hx => hlt x (by simp [hx])) h2, rfl⟩
theorem law_post {H : Type} {enc : TypeId × Value → H} {P : Program} {f : Func} {s : ChangeSpec} {apart handsOn : Bool} {W W' : World} {args : Array Value} {ds gs : List (DataW H)} {before : List MemPlace} {tb : TypeId}
    (hl : laidOutB P = true) (htb : P.underlying tb = some .bool) (hrt : f.resultTypes = #[tb]) (hr : ∀ t ∈ f.params.toList, P.readableRec t = true ∧ t < P.types.size) (hsv : s.vars = [])
    (hW : DataW.Whole enc P f.params.toList s.vars apart W args.toList ds gs before)
    (hres : (s.fn H (ds ++ gs)).results = [.lit (.bool true)]) (harg : (s.fn H (ds ++ gs)).args = ds) (hvar : (s.fn H (ds ++ gs)).vars = [])
    (hb : Below W.heap.size W W') : s.post enc P f apart true handsOn false W args (.bool true) W' := by
  have hlt := hW.lt
  obtain ⟨p, q, hA, hV, hpq, hfz, hnd⟩ := hW
  have hgs : gs = [] ∧ q = [] := by
    rw [hsv] at hV
    cases gs with
    | nil => exact ⟨rfl, hV⟩
    | cons g gs => exact hV.elim
  refine ⟨ds, gs, before, [], p, [], ⟨p, q, hA, hV, hpq, hfz, hnd⟩, ?_, ?_, ?_, hb.frame _, fun h => by cases h⟩
  · rw [hrt, hres]
    exact trodAll_cons_mk (shut_bool htb _) trodAll_mk0
  · rw [harg]
    exact trodAll_below hl hb _ _ _ _ hr (fun x hx => hlt x (by rw [hpq]; simp [hx])) hA
  · rw [hsv, hvar]; rfl
end Go.Proofs.YtplbdlgmjehckadGreatDoor

namespace Go.Proofs.YtplbdlgmjehckadGreatDoor
open Go.RowKit
set_option linter.unusedVariables false
set_option linter.unusedSimpArgs false
structure Kept (S : Nat → Prop) (w w' : World) : Prop where
  os : w'.os = w.os
  tape : w'.tape = w.tape
  output : w'.output = w.output
  size : w.heap.size ≤ w'.heap.size
  block : ∀ k, k < w.heap.size → ¬ S k → w'.heap[k]? = w.heap[k]?
theorem Kept.refl (S : Nat → Prop) (w : World) : Kept S w w := ⟨rfl, rfl, rfl, Nat.le_refl _, fun _ _ _ => rfl⟩
theorem Kept.trans {S : Nat → Prop} {a b c : World} (h : Kept S a b) (k : Kept S b c) : Kept S a c :=
  ⟨k.os.trans h.os, k.tape.trans h.tape, k.output.trans h.output, Nat.le_trans h.size k.size,
    fun i hi hs => (k.block i (Nat.lt_of_lt_of_le hi h.size) hs).trans (h.block i hi hs)⟩
theorem Kept.trans' {S T : Nat → Prop} {a b c : World} (h : Kept S a b) (k : Kept T b c) (hT : ∀ i, i < a.heap.size → T i → S i) : Kept S a c :=
  ⟨k.os.trans h.os, k.tape.trans h.tape, k.output.trans h.output, Nat.le_trans h.size k.size,
    fun i hi hs => (k.block i (Nat.lt_of_lt_of_le hi h.size) (fun ht => hs (hT i hi ht))).trans (h.block i hi hs)⟩
theorem Kept.mono {S T : Nat → Prop} {a b : World} (h : Kept S a b) (hs : ∀ k, k < a.heap.size → S k → T k) : Kept T a b :=
  ⟨h.os, h.tape, h.output, h.size, fun i hi ht => h.block i hi (fun x => ht (hs i hi x))⟩
theorem Kept.drewN {S : Nat → Prop} {a b : World} (h : Kept S a b) (n : Nat) : Kept S a (b.drewN n) := ⟨h.os, h.tape, h.output, h.size, h.block⟩
theorem Kept.drew {S : Nat → Prop} {a b : World} (h : Kept S a b) : Kept S a b.drew := ⟨h.os, h.tape, h.output, h.size, h.block⟩
theorem Kept.alloc {S : Nat → Prop} {a b : World} (h : Kept S a b) (o : Obj) : Kept S a (b.alloc o) :=
  h.trans ⟨rfl, rfl, rfl, by simp, fun k hk _ => Below.heap_alloc _ _ _ hk⟩
theorem Kept.setCell {S : Nat → Prop} {a b : World} (h : Kept S a b) {p : Addr} (hp : S p.block ∨ a.heap.size ≤ p.block) (u : Value) : Kept S a (b.setCell p u) :=
  ⟨h.os, h.tape, h.output, by simpa [World.setCell] using h.size, fun i hi hs => (Below.heap_setCell b p u i (by
    rintro rfl
    rcases hp with hp | hp
    · exact hs hp
    · omega)).trans (h.block i hi hs)⟩
theorem Kept.grown {S : Nat → Prop} {a b c : World} {row : Option Nat} (h : Kept S a b) (hg : b.grownBy c row) (hr : ∀ k, row = some k → S k ∨ a.heap.size ≤ k) : Kept S a c :=
  ⟨hg.os.trans h.os, hg.tape.trans h.tape, hg.output.trans h.output, Nat.le_trans h.size hg.size,
    fun i hi hs => (hg.block i (Nat.lt_of_lt_of_le hi h.size) (fun e => by
      rcases hr i e.symm with x | x
      · exact hs x
      · omega)).trans (h.block i hi hs)⟩
theorem Kept.below {a b : World} (h : Kept (fun _ => False) a b) : Below a.heap.size a b := ⟨h.os, h.tape, h.output, h.size, fun k hk => h.block k hk id⟩
theorem Kept.of_below {S : Nat → Prop} {a b : World} (h : Below a.heap.size a b) : Kept S a b := ⟨h.os, h.tape, h.output, h.size, fun k hk _ => h.block k hk⟩
theorem Kept.cell {S : Nat → Prop} {a b : World} (h : Kept S a b) {p : Addr} {v : Value} (hs : ¬ S p.block) (hc : a.cell? p = some v) : b.cell? p = some v :=
  (World.cell?_of_block (h.block p.block (World.block_lt_of_cell? a p hc) hs)).trans hc
theorem Kept.frozen {S : Nat → Prop} {a b : World} (h : Kept S a b) {p : Addr} (hs : ¬ S p.block) (hl : p.block < a.heap.size) {x : Bool} (hc : a.frozen? p = x) : b.frozen? p = x :=
  (World.frozen?_of_block (h.block p.block hl hs)).trans hc
theorem Kept.heap {S : Nat → Prop} {a b : World} (h : Kept S a b) {k : Nat} {o : Obj} (hs : ¬ S k) (hc : a.heap[k]? = some o) : b.heap[k]? = some o :=
  (h.block k (Array.getElem?_eq_some_iff.1 hc).1 hs).trans hc
def Qt (w w' : World) : Prop := ∃ n, w' = w.drewN n
theorem Qt.refl (w : World) : Qt w w := ⟨0, rfl⟩
theorem Qt.kept {w w' : World} (h : Qt w w') (S : Nat → Prop) : Kept S w w' := by obtain ⟨n, rfl⟩ := h; exact (Kept.refl S w).drewN n
theorem Qt.trans {a b c : World} (h : Qt a b) (k : Qt b c) : Qt a c := by
  obtain ⟨n, rfl⟩ := h; obtain ⟨m, rfl⟩ := k; exact ⟨n + m, by rw [World.drewN_drewN]⟩
theorem Qt.heap {w w' : World} (h : Qt w w') : w'.heap = w.heap := by obtain ⟨n, rfl⟩ := h; rfl
theorem cellIn {w : World} {b : Nat} {cs : Array Value} {t : TypeId} {fz : Nat × Nat} (h : w.heap[b]? = some (.cells cs t fz)) (k : Nat) {v : Value} (hv : cs[k]? = some v) :
    w.cell? ⟨b, k, none⟩ = some v := (cell_of_row w b k cs t fz h).trans hv
theorem freeIn {w : World} {b : Nat} {cs : Array Value} {t : TypeId} (h : w.heap[b]? = some (.cells cs t (0, 0))) (k : Nat) : w.frozen? ⟨b, k, none⟩ = false := by
  simp [World.frozen?, h]
theorem ltIn {w : World} {b : Nat} {o : Obj} (h : w.heap[b]? = some o) : b < w.heap.size := (Array.getElem?_eq_some_iff.1 h).1
theorem setIn {w : World} {b : Nat} {cs : Array Value} {t : TypeId} {fz : Nat × Nat} (h : w.heap[b]? = some (.cells cs t fz)) (k : Nat) (v : Value) :
    (w.setCell ⟨b, k, none⟩ v).heap[b]? = some (.cells (cs.setIfInBounds k v) t fz) := by
  simp [World.setCell, Array.getElem?_modify, h]
theorem newIn (w : World) (o : Obj) : (w.alloc o).heap[w.heap.size]? = some o := heap_alloc_new w o
theorem oldIn {w : World} {b : Nat} {o : Obj} (h : w.heap[b]? = some o) (o' : Obj) : (w.alloc o').heap[b]? = some o := (heap_alloc_old w o' (ltIn h)).trans h
theorem cell_alloc {w : World} {a : Addr} {v : Value} (h : w.cell? a = some v) (o : Obj) : (w.alloc o).cell? a = some v := (World.cell?_alloc_lt w o a (World.block_lt_of_cell? w a h)).trans h
theorem frozen_alloc' {w : World} {a : Addr} {x : Bool} (hl : a.block < w.heap.size) (h : w.frozen? a = x) (o : Obj) : (w.alloc o).frozen? a = x := (World.frozen?_alloc_old w o a (Nat.ne_of_lt hl)).trans h
theorem otherIn {w : World} {b : Nat} {o : Obj} (h : w.heap[b]? = some o) (p : Addr) (v : Value) (hp : b ≠ p.block) : (w.setCell p v).heap[b]? = some o := (Below.heap_setCell w p v b hp).trans h
def RowsAt (w : World) (size : Nat) (v : Value) (rows : List (List Value)) : Prop :=
  ∃ a cap, v = .slice a rows.length cap ∧ rows.length ≤ cap ∧ cap ≤ maxLen ∧ (rows ≠ [] → ∃ b off, a = some ⟨b, off, none⟩ ∧
    ∀ i r, rows[i]? = some r → ∀ j c, r[j]? = some c → w.cell? ⟨b, off + i * size + j, none⟩ = some c)
theorem RowsAt.kept {w w' : World} {size : Nat} {v : Value} {rows : List (List Value)} {S : Nat → Prop} (h : RowsAt w size v rows) (hk : Kept S w w')
    (hs : ∀ k, v.ownBlock = some k → ¬ S k) : RowsAt w' size v rows := by
  obtain ⟨a, cap, rfl, h1, h2, h3⟩ := h
  refine ⟨a, cap, rfl, h1, h2, fun hne => ?_⟩
  obtain ⟨b, off, rfl, h4⟩ := h3 hne
  exact ⟨b, off, rfl, fun i r hr j c hc => hk.cell (hs b rfl) (h4 i r hr j c hc)⟩
theorem RowsAt.below {w w' : World} {size : Nat} {v : Value} {rows : List (List Value)} (h : RowsAt w size v rows) (hb : Below w.heap.size w w') : RowsAt w' size v rows :=
  h.kept (S := fun _ => False) (Kept.of_below hb) (fun _ _ => id)
theorem RowsAt.quiet {w w' : World} {size : Nat} {v : Value} {rows : List (List Value)} (h : RowsAt w size v rows) (hk : Qt w w') : RowsAt w' size v rows :=
  h.kept (S := fun _ => False) (hk.kept _) (fun _ _ => id)
theorem RowsAt.alloc {w : World} {size : Nat} {v : Value} {rows : List (List Value)} (h : RowsAt w size v rows) (o : Obj) : RowsAt (w.alloc o) size v rows :=
  h.kept (S := fun _ => False) ((Kept.refl _ w).alloc o) (fun _ _ => id)
theorem RowsAt.nil (w : World) (size : Nat) : RowsAt w size (.slice none 0 0) [] := ⟨none, 0, rfl, Nat.le_refl _, by simp [maxLen], fun h => absurd rfl h⟩
theorem flatten_get (size : Nat) : ∀ (rows : List (List Value)), (∀ r ∈ rows, r.length = size) → ∀ i r, rows[i]? = some r → ∀ j c, r[j]? = some c → rows.flatten[i * size + j]? = some c
  | [], _, i, r, h, _, _, _ => by simp at h
  | r0 :: rows, hl, i, r, h, j, c, hc => by
    have h0 := hl r0 (by simp)
    cases i with
    | zero =>
      simp at h; subst h
      have : j < r0.length := (List.getElem?_eq_some_iff.1 hc).1
      simp only [Nat.zero_mul, Nat.zero_add, List.flatten_cons]
      rw [List.getElem?_append_left this]; exact hc
    | succ i =>
      simp only [List.getElem?_cons_succ] at h
      have := flatten_get size rows (fun r hr => hl r (by simp [hr])) i r h j c hc
      simp only [List.flatten_cons]
      rw [List.getElem?_append_right (by rw [h0, Nat.succ_mul]; omega), h0]
      rw [show (i + 1) * size + j - size = i * size + j from by rw [Nat.succ_mul]; omega]
      exact this
theorem owns_kept {w w' : World} {S : Nat → Prop} {base e size n : Nat} {v : Value} {xs : List Value} (h : w.ownsRow base e size v n xs) (hk : Kept S w w') (hs : ∀ k, v.ownBlock = some k → ¬ S k) :
    w'.ownsRow base e size v n xs := by
  refine ⟨h.1, ?_⟩
  rcases h.2 with x | ⟨g, cap, cur, hv, hg, hh, rest⟩
  · exact .inl x
  · exact .inr ⟨g, cap, cur, hv, hg, hk.heap (hs g (by rw [hv]; rfl)) hh, rest⟩
theorem rowsAt_of_owns {w : World} {base e size n : Nat} {v : Value} {rows : List (List Value)} (hl : ∀ r ∈ rows, r.length = size) (hn : n = rows.length)
    (h : w.ownsRow base e size v n rows.flatten) : RowsAt w size v rows := by
  subst hn
  rcases h.2 with ⟨rfl, hn⟩ | ⟨g, cap, cur, rfl, hb, hg, hnc, hcm, hcs, htake⟩
  · have : rows = [] := List.length_eq_zero_iff.1 hn
    subst this
    exact RowsAt.nil w size
  · refine ⟨_, cap, rfl, hnc, hcm, fun _ => ⟨g, 0, rfl, fun i r hr j c hc => ?_⟩⟩
    have := flatten_get size rows hl i r hr j c hc
    rw [← htake] at this
    have hlt : i * size + j < rows.length * size := by
      have := (List.getElem?_eq_some_iff.1 this).1
      simp only [List.length_take] at this
      omega
    rw [List.getElem?_take, if_pos hlt] at this
    rw [cell_of_row w g _ cur e (0, 0) hg, Nat.zero_add]
    simpa using this
end Go.Proofs.YtplbdlgmjehckadGreatDoor

namespace Go.Proofs.YtplbdlgmjehckadGreatDoor
open Go.RowKit
set_option linter.unusedVariables false
set_option linter.unusedSimpArgs false
theorem retb {a b : Bool} (h : a = b) : Ending.returned (.bool a) = .returned (.bool b) := by rw [h]
theorem reti {k : IntKind} {a b : Int} (h : a = b) : Ending.returned (.int k a) = .returned (.int k b) := by rw [h]
theorem rets {a b : ByteArray} (h : a = b) : Ending.returned (.string a) = .returned (.string b) := by rw [h]
def idx : Option Nat → Int
  | none => -1
  | some k => (k : Int)
end Go.Proofs.YtplbdlgmjehckadGreatDoor

namespace Go.Proofs.YtplbdlgmjehckadGreatDoor
open Go.RowKit
set_option linter.unusedVariables false
set_option linter.unusedSimpArgs false
theorem hasPrefix_any (l p : B) (w : World) :
    Calls Tryz.prog 92 #[.string (str l), .string (str p)] w fun e w' => e = .returned (.bool (p.isPrefixOf l)) ∧ w' = w :=
  Tryz.strings_HasPrefix (str l) (str p) w
theorem index_any (l sub : B) (m : Int) (w : World) (hl : l.length < 4294967281) (hm : w.cell? ⟨0, 0, none⟩ = some (.int .i64 m)) :
    Calls Tryz.prog 67 #[.string (str l), .string (str sub)] w fun e w' => e = .returned (.int .i64 (idx (findSub sub l))) ∧ w' = w :=
  (Tryz.strings_Index (str l) (str sub) m w hl hm).mono fun e w' ⟨he, hw⟩ => ⟨by rw [he, str_data, str_data, index_findSub]; rfl, hw⟩
theorem index_none (l sub : B) (m : Int) (w : World) (hl : l.length < 4294967281) (hm : w.cell? ⟨0, 0, none⟩ = some (.int .i64 m)) (hf : findSub sub l = none) :
    Calls Tryz.prog 67 #[.string (str l), .string (str sub)] w fun e w' => e = .returned (.int .i64 (-1)) ∧ w' = w := by
  have := index_any l sub m w hl hm; rw [hf] at this; exact this
theorem index_some {k : Nat} (l sub : B) (m : Int) (w : World) (hl : l.length < 4294967281) (hm : w.cell? ⟨0, 0, none⟩ = some (.int .i64 m)) (hf : findSub sub l = some k) :
    Calls Tryz.prog 67 #[.string (str l), .string (str sub)] w fun e w' => e = .returned (.int .i64 (k : Int)) ∧ w' = w := by
  have := index_any l sub m w hl hm; rw [hf] at this; exact this
end Go.Proofs.YtplbdlgmjehckadGreatDoor

namespace Go.Proofs.YtplbdlgmjehckadGreatDoor
open Go.RowKit
set_option linter.unusedVariables false
set_option linter.unusedSimpArgs false
def SdAt (w : World) (b : Nat) (s : B) (at_ : Nat) : Prop :=
  w.heap[b]? = some (.cells #[.string (str s), .int .i64 (at_ : Int)] 115 (0, 0)) ∧ at_ ≤ s.length ∧ s.length ≤ 4000
def soops (f : Flt) : Value := .iface 152 (.agg #[.int .i64 (f.err : Int), .int .i64 (f.pos : Int)])
@[reducible] def sthrown (f : Flt) : Ending := .panicked [{ v := soops f, recovered := false }]
section
variable {w w' : World} {b : Nat} {s : B} {a : Nat}
theorem SdAt.kept {S : Nat → Prop} (h : SdAt w b s a) (hk : Kept S w w') (hs : ¬ S b) : SdAt w' b s a := ⟨hk.heap hs h.1, h.2⟩
theorem SdAt.quiet (h : SdAt w b s a) (hk : Qt w w') : SdAt w' b s a := h.kept (S := fun _ => False) (hk.kept _) id
theorem SdAt.drewN (h : SdAt w b s a) (n : Nat) : SdAt (w.drewN n) b s a := h
theorem SdAt.drew (h : SdAt w b s a) : SdAt w.drew b s a := h
theorem SdAt.alloc (h : SdAt w b s a) (o : Obj) : SdAt (w.alloc o) b s a := ⟨oldIn h.1 o, h.2⟩
theorem SdAt.set (h : SdAt w b s a) {x : Int} {a' : Nat} (hx : x = (a' : Int)) (hl : a' ≤ s.length) : SdAt (w.setCell ⟨b, 1, none⟩ (.int .i64 x)) b s a' := by
  refine ⟨?_, hl, h.2.2⟩
  subst hx
  have := setIn h.1 1 (.int .i64 (a' : Int))
  simpa using this
theorem SdAt.other (h : SdAt w b s a) {p : Addr} {x : Value} (hp : b ≠ p.block) : SdAt (w.setCell p x) b s a := ⟨otherIn h.1 p x hp, h.2⟩
theorem SdAt.c0 (h : SdAt w b s a) : w.cell? ⟨b, 0, none⟩ = some (.string (str s)) := cellIn h.1 0 rfl
theorem SdAt.c1 (h : SdAt w b s a) : w.cell? ⟨b, 1, none⟩ = some (.int .i64 (a : Int)) := cellIn h.1 1 rfl
theorem SdAt.free (h : SdAt w b s a) (k : Nat) : w.frozen? ⟨b, k, none⟩ = false := freeIn h.1 k
theorem SdAt.lt (h : SdAt w b s a) : b < w.heap.size := ltIn h.1
end
def SSum {α : Type} (X : Ans (α × B × Nat)) (w : World) (b : Nat) (s : B) (R : World → α → Ending → Prop) (e : Ending) (w' : World) : Prop :=
  (∃ f, e = sthrown f ∧ Kept (· = b) w w' ∧ Hid (X = .bad f)) ∨ (∃ v at', R w' v e ∧ Kept (· = b) w w' ∧ SdAt w' b s at' ∧ Hid (X = .ok (v, s.drop at', at')))
set_option maxHeartbeats 400000 in
theorem sfail_any (err : Nat) (w : World) (b : Nat) (s : B) (at_ : Nat) (h : SdAt w b s at_) :
    Calls Tryz.prog 42 #[.pointer (some ⟨b, 0, none⟩), .int .i64 (err : Int)] w fun e w' => e = sthrown ⟨err, at_⟩ ∧ Qt w w' := by
  have h1 := h.c1
  clear h
  go_enter Tryz.func42, Tryz.ntmps42
  go_wp2
  exact ⟨rfl, rfl, 0, rfl⟩
set_option maxHeartbeats 400000 in
theorem sis_any (word : B) (w : World) (b : Nat) (s : B) (at_ : Nat) (h : SdAt w b s at_) :
    Calls Tryz.prog 97 #[.pointer (some ⟨b, 0, none⟩), .string (str word)] w fun e w' => e = .returned (.bool (word.isPrefixOf (s.drop at_))) ∧ ∃ n, w' = w.drewN n := by
  have h0 := h.c0
  have h1 := h.c1
  have hl := h.2.1
  have hm := h.2.2
  clear h
  go_enter Tryz.func97, Tryz.ntmps97
  go_wp2
  go_quiet ((go_at_call 92; refine Calls.quiet_of_same (hasPrefix_any _ _ _)))
  go_wp2
  go_ret
  exact ⟨rfl, _, rfl⟩
theorem sis_is (r : Bool) (word : B) (w : World) (b : Nat) (s : B) (at_ : Nat) (h : SdAt w b s at_) (hr : word.isPrefixOf (s.drop at_) = r) :
    Calls Tryz.prog 97 #[.pointer (some ⟨b, 0, none⟩), .string (str word)] w fun e w' => e = .returned (.bool r) ∧ ∃ n, w' = w.drewN n := by
  have := sis_any word w b s at_ h; rw [hr] at this; exact this
set_option maxHeartbeats 400000 in
theorem seat_no (word : B) (w : World) (b : Nat) (s : B) (at_ : Nat) (h : SdAt w b s at_) (hp : word.isPrefixOf (s.drop at_) = false) :
    Calls Tryz.prog 70 #[.pointer (some ⟨b, 0, none⟩), .string (str word)] w fun e w' => e = .returned (.bool false) ∧ ∃ n, w' = w.drewN n := by
  have H := Lib.hid h
  have HP := Lib.hid hp
  clear h hp
  go_enter Tryz.func70, Tryz.ntmps70
  go_wp2_with fail
  refine (sis_is false word _ _ _ _ H.out HP.out).mono ?_
  rintro e w1 ⟨rfl, n1, rfl⟩
  go_wp2_with fail
  go_ret
  exact ⟨rfl, _, rfl⟩
set_option maxHeartbeats 400000 in
theorem seat_yes (word : B) (w : World) (b : Nat) (s : B) (at_ : Nat) (h : SdAt w b s at_) (hp : word.isPrefixOf (s.drop at_) = true) :
    Calls Tryz.prog 70 #[.pointer (some ⟨b, 0, none⟩), .string (str word)] w fun e w' => e = .returned (.bool true) ∧ Kept (· = b) w w' ∧ SdAt w' b s (at_ + word.length) := by
  have H := Lib.hid h
  have HP := Lib.hid hp
  have hl : at_ + word.length ≤ s.length := by
    have := (List.isPrefixOf_iff_prefix.1 hp).length_le
    simp only [List.length_drop] at this
    have := h.2.1
    by_cases hw : word = []
    · subst hw; simpa using h.2.1
    · have : 0 < word.length := List.length_pos_iff.2 hw
      omega
  have hm := h.2.2
  clear h hp
  go_enter Tryz.func70, Tryz.ntmps70
  go_wp2_with fail
  refine (sis_is true word _ _ _ _ H.out HP.out).mono ?_
  rintro e w1 ⟨rfl, n1, rfl⟩
  have H1 := Lib.hid (H.out.drewN n1)
  have c1 := (H.out.drewN n1).c1
  have f1 := (H.out.drewN n1).free 1
  go_wp2_with fail
  go_ret
  exact ⟨rfl, ((Kept.refl (· = b) w).drewN n1).setCell (p := ⟨b, 1, none⟩) (.inl rfl) _, H1.out.set (by omega) hl⟩
set_option maxHeartbeats 400000 in
theorem smust_bad (word : B) (w : World) (b : Nat) (s : B) (at_ : Nat) (h : SdAt w b s at_) (hp : word.isPrefixOf (s.drop at_) = false) :
    Calls Tryz.prog 72 #[.pointer (some ⟨b, 0, none⟩), .string (str word)] w fun e w' => e = sthrown ⟨2, at_⟩ ∧ Qt w w' := by
  have H := Lib.hid h
  have HP := Lib.hid hp
  clear h hp
  go_enter Tryz.func72, Tryz.ntmps72
  go_wp2_with fail
  refine (seat_no word _ _ _ _ H.out HP.out).mono ?_
  rintro e w1 ⟨rfl, n1, rfl⟩
  have H1 := Lib.hid (H.out.drewN n1)
  go_wp2_with fail
  refine (sfail_any 2 _ _ _ _ H1.out).mono ?_
  rintro e w2 ⟨rfl, hq2⟩
  have HQ := Lib.hid (Qt.trans ⟨n1, rfl⟩ hq2)
  clear hq2
  go_wp2_with fail
  exact ⟨rfl, rfl, HQ.out⟩
set_option maxHeartbeats 400000 in
theorem smust_ok (word : B) (w : World) (b : Nat) (s : B) (at_ : Nat) (h : SdAt w b s at_) (hp : word.isPrefixOf (s.drop at_) = true) :
    Calls Tryz.prog 72 #[.pointer (some ⟨b, 0, none⟩), .string (str word)] w fun e w' => e = .returned (.tuple #[]) ∧ Kept (· = b) w w' ∧ SdAt w' b s (at_ + word.length) := by
  have H := Lib.hid h
  have HP := Lib.hid hp
  clear h hp
  go_enter Tryz.func72, Tryz.ntmps72
  go_wp2_with fail
  refine (seat_yes word _ _ _ _ H.out HP.out).mono ?_
  rintro e w1 ⟨rfl, hk, hr⟩
  have HK := Lib.hid hk
  have HR := Lib.hid hr
  clear hk hr
  go_wp2_with fail
  go_end0
  exact ⟨rfl, HK.out, HR.out⟩
theorem smust_sum (word : B) (w : World) (b : Nat) (s : B) (at_ : Nat) (h : SdAt w b s at_) :
    Calls Tryz.prog 72 #[.pointer (some ⟨b, 0, none⟩), .string (str word)] w fun e w' =>
      (∃ f, e = sthrown f ∧ Kept (· = b) w w' ∧ Hid (pMust word (s.drop at_) at_ = .bad f)) ∨ (∃ at', e = .returned (.tuple #[]) ∧ Kept (· = b) w w' ∧ SdAt w' b s at' ∧ Hid (pMust word (s.drop at_) at_ = .ok (s.drop at', at'))) := by
  cases hp : word.isPrefixOf (s.drop at_) with
  | false => exact (smust_bad word w b s at_ h hp).mono fun e w' ⟨h1, h2⟩ => .inl ⟨_, h1, h2.kept _, Lib.hid (by unfold pMust; rw [hp]; rfl)⟩
  | true => exact (smust_ok word w b s at_ h hp).mono fun e w' ⟨h1, h2, h3⟩ => .inr ⟨_, h1, h2, h3, Lib.hid (by unfold pMust; rw [if_pos hp, List.drop_drop])⟩
set_option maxRecDepth 100000 in
set_option maxHeartbeats 1600000 in
theorem sblank_sum (w : World) (b : Nat) (s : B) (at_ : Nat) (m : Int) (h : SdAt w b s at_) (hm : w.cell? ⟨0, 0, none⟩ = some (.int .i64 m)) (hb0 : 0 < b) :
    Calls Tryz.prog 69 #[.pointer (some ⟨b, 0, none⟩)] w fun e w' =>
      (∃ f, e = sthrown f ∧ Kept (· = b) w w' ∧ Hid (sGap (s.drop at_) at_ = .bad f)) ∨ (∃ at', e = .returned (.bool (decide (at_ < at'))) ∧ Kept (· = b) w w' ∧ SdAt w' b s at' ∧ Hid (sGap (s.drop at_) at_ = .ok (s.drop at', at'))) := by
  obtain ⟨r, HR⟩ : ∃ r, Hid (sGap (s.drop at_) at_ = r) := ⟨_, rfl⟩
  rw [HR.out]
  have H := Lib.hid h
  have HM := Lib.hid hm
  have c1 := h.c1
  have hl := h.2.1
  have hmx := h.2.2
  clear h hm
  go_enter Tryz.func69, Tryz.ntmps69
  go_wp2_with fail
  clear c1
  go_loopg [] (s.length - at_) (fun k wr => ∃ at', SdAt wr b s at' ∧ at_ ≤ at' ∧ Hid (Kept (· = b) w wr) ∧ Hid (sGap (s.drop at') at' = r) ∧ k = s.length - at')
  case atStart => exact ⟨at_, H.out, Nat.le_refl _, Lib.hid (Kept.refl _ _), HR, rfl⟩
  case round =>
    obtain ⟨at', hsd, hle, HK, HG, hk⟩ := hrel
    have HS := Lib.hid hsd
    have c0 := hsd.c0
    have c1 := hsd.c1
    have f1 := hsd.free 1
    have hl' := hsd.2.1
    clear hsd
    have hk0 : Hid (Kept (· = b) w wr.drew) := Lib.hid HK.out.drew
    by_cases hlt : at' < s.length
    · have hd := List.drop_eq_getElem_cons hlt
      have hG := HG.out
      rw [hd, gap_cons, ← hd] at hG
      have HD := Lib.hid hd
      clear hd
      cases e1 : (((s[at']'hlt).toNat : Int) == 32) with
      | true =>
        rw [if_pos (.inl (by simp at e1; omega))] at hG
        have HGN := Lib.hid hG
        clear hG
        have e2 : ∀ x : Bool, ((((s[at']'hlt).toNat : Int) == 32) || x) = true := fun x => by rw [e1]; rfl
        go_wp2_with fail
        go_quiet (fail)
        go_wp2_with fail
        go_quiet (fail)
        go_wp2_with fail
        go_roundg (s.length - (at' + 1))
        case measure => omega
        case rel => exact ⟨at' + 1, ((HS.out.drewN _).set (by omega) (by omega)), by omega, Lib.hid ((HK.out.drewN _).setCell (p := ⟨b, 1, none⟩) (.inl rfl) _), HGN, rfl⟩
      | false =>
        cases e2 : (((s[at']'hlt).toNat : Int) == 10) with
        | true =>
          rw [if_pos (.inr (by simp at e2; omega))] at hG
          have HGN := Lib.hid hG
          clear hG
          go_wp2_with fail
          go_quiet (fail)
          go_wp2_with fail
          go_quiet (fail)
          go_wp2_with fail
          go_roundg (s.length - (at' + 1))
          case measure => omega
          case rel => exact ⟨at' + 1, ((HS.out.drewN _).set (by omega) (by omega)), by omega, Lib.hid ((HK.out.drewN _).setCell (p := ⟨b, 1, none⟩) (.inl rfl) _), HGN, rfl⟩
        | false =>
          rw [if_neg (by simp at e1 e2; omega)] at hG
          have HGN := Lib.hid hG
          clear hG
          go_wp2_with fail
          go_quiet (fail)
          go_wp2_with fail
          go_quiet (fail)
          go_wp2_with fail
          cases hp : gapBegin.isPrefixOf (s.drop at') with
          | false =>
            refine (sis_is false gapBegin _ _ _ _ (HS.out.drewN _) hp).mono ?_
            rintro e w1 ⟨rfl, n1, rfl⟩
            have hgt : decide ((at_ : Int) < (at' : Int)) = decide (at_ < at') := by rw [Bool.eq_iff_iff]; simp
            have hR : Hid (r = .ok (s.drop at', at')) := Lib.hid (by have := HGN.out; rw [hp] at this; exact this.symm)
            clear hp
            go_wp2_with fail
            go_ret
            exact .inr ⟨at', rfl, HK.out.drewN _, HS.out.drewN _, hR⟩
          | true =>
            have HP := Lib.hid hp
            have hp2 : at' + 2 ≤ s.length := by
              have := (List.isPrefixOf_iff_prefix.1 hp).length_le
              rw [List.length_drop] at this
              simp only [gapBegin, List.length_cons, List.length_nil] at this
              omega
            have hG := HGN.out
            rw [hp, if_pos rfl, List.drop_drop] at hG
            have HGM := Lib.hid hG
            refine (sis_is true gapBegin _ _ _ _ (HS.out.drewN _) hp).mono ?_
            rintro e w1 ⟨rfl, hw1⟩
            have hq1 : Qt wr w1 := Qt.trans ⟨_, rfl⟩ hw1
            have HS1 := Lib.hid (HS.out.quiet hq1)
            have HK1 := Lib.hid (HK.out.trans (hq1.kept _))
            clear c0 c1 f1 hw1
            have c0 := HS1.out.c0
            have c1 := HS1.out.c1
            have f1 := HS1.out.free 1
            have hlen : (s.drop (at' + 2)).length < 4294967281 := by rw [List.length_drop]; omega
            have hmr : w1.cell? ⟨0, 0, none⟩ = some (.int .i64 m) := HK1.out.cell (by show ¬ (0 = b); omega) HM.out
            have HMR := Lib.hid hmr
            clear hp hmr hG hq1
            cases hf : findSub gapEnd (s.drop (at' + 2)) with
            | none =>
              have hR : Hid (r = .bad ⟨2, at'⟩) := Lib.hid (by have := HGM.out; rw [hf] at this; exact this.symm)
              go_wp2_with fail
              go_quiet ((go_at_call 67; exact Calls.quiet_of_same (index_none _ gapEnd m _ hlen HMR.out hf)))
              clear hf
              go_wp2_with fail
              refine (sfail_any 2 _ _ _ _ (HS1.out.drewN _)).mono ?_
              rintro e w2 ⟨rfl, hq2⟩
              go_wp2_with fail
              exact ⟨rfl, .inl ⟨_, rfl, (HK1.out.drewN _).trans (hq2.kept _), hR⟩⟩
            | some e =>
              have hfl := findSub_le _ _ _ hf
              rw [List.length_drop] at hfl
              have hsl : gapEnd.length = 2 := rfl
              rw [hsl] at hfl
              have hGE : Hid (sGap (s.drop (at' + (2 + e + 2))) (at' + (2 + e + 2)) = r) := Lib.hid (by have := HGM.out; rw [hf] at this; simp only [List.drop_drop] at this; exact this)
              go_wp2_with fail
              go_quiet ((go_at_call 67; exact Calls.quiet_of_same (index_some _ gapEnd m _ hlen HMR.out hf)))
              clear hf
              go_wp2_with fail
              go_roundg (s.length - (at' + (2 + e + 2)))
              case measure => omega
              case rel => exact ⟨at' + (2 + e + 2), (HS1.out.drewN _).set (by omega) (by omega), by omega, Lib.hid ((HK1.out.drewN _).setCell (p := ⟨b, 1, none⟩) (.inl rfl) _), hGE, rfl⟩
    · have e3 : decide ((at' : Int) < (s.length : Int)) = false := by simp; omega
      have hnil : Hid (s.drop at' = []) := Lib.hid (List.drop_eq_nil_of_le (by omega))
      have hG := HG.out
      rw [hnil.out] at hG
      have hR : Hid (r = .ok (s.drop at', at')) := Lib.hid (by rw [hnil.out]; exact hG.symm)
      have hgt : decide ((at_ : Int) < (at' : Int)) = decide (at_ < at') := by rw [Bool.eq_iff_iff]; simp
      clear hG
      go_wp2_with fail
      go_quiet (fail)
      go_wp2_with fail
      go_ret
      exact .inr ⟨at', rfl, HK.out.drewN _, HS.out.drewN _, hR⟩
end Go.Proofs.YtplbdlgmjehckadGreatDoor

namespace Go.Proofs.YtplbdlgmjehckadGreatDoor
open Go.RowKit
set_option linter.unusedVariables false
set_option linter.unusedSimpArgs false
theorem named_yes {s : B} (h1 : 1 ≤ s.length) (h2 : s.length ≤ 20) (h : ∀ j (h : j < s.length), inName j s[j] = true) : named s = true := by
  unfold named
  have : nameLen s = s.length := by
    have h3 := nameLen_le s
    rcases Nat.lt_or_ge (nameLen s) s.length with h4 | h4
    · have := nameLen_out s h4
      rw [h _ h4] at this; cases this
    · omega
  simp [h1, h2, this]
theorem named_no {s : B} {k : Nat} (hk : k < s.length) (h : inName k s[k] = false) : named s = false := by
  unfold named
  have : nameLen s ≠ s.length := by
    intro e
    obtain ⟨_, h2⟩ := nameLen_in s k (by omega)
    rw [h] at h2; cases h2
  simp [this]
def NamedEnds (w : World) (r : Bool) (e : Ending) (w' : World) : Prop := e = .returned (.bool r) ∧ w' = w
set_option maxHeartbeats 1600000 in
theorem named_any (w : World) (s : B) : Calls Tryz.prog 98 #[.string (str s)] w (NamedEnds w (named s)) := by
  by_cases hl0 : s.length < 1
  · have hsz : (s.length : Int) < 1 := by omega
    go_enter Tryz.func98, Tryz.ntmps98
    go_wp2
    go_ret
    exact ⟨retb (by
      unfold named
      have : ¬ 1 ≤ s.length := by omega
      simp [this]), rfl⟩
  · by_cases hl20 : 20 < s.length
    · have hsz : ¬ (s.length : Int) < 1 := by omega
      have hsz2 : 20 < (s.length : Int) := by omega
      go_enter Tryz.func98, Tryz.ntmps98
      go_wp2
      go_ret
      exact ⟨retb (by
        unfold named
        have : ¬ s.length ≤ 20 := by omega
        simp [this]), rfl⟩
    · have hsz : ¬ (s.length : Int) < 1 := by omega
      have hsz2 : ¬ 20 < (s.length : Int) := by omega
      go_enter Tryz.func98, Tryz.ntmps98
      go_wp2
      go_loop [15] (fun k => ∃ j : Nat, j ≤ s.length ∧ k = .int .i64 j ∧ Hid (∀ i (h : i < s.length), i < j → inName i s[i] = true)) (fun k => s.length - (intOf k).toNat)
      case atStart => exact ⟨0, by omega, rfl, fun i h hi => by omega⟩
      case round =>
        obtain ⟨j, hj, rfl, HH⟩ := hrel
        by_cases hlt : j < s.length
        · cases hin : inName j s[j] with
          | true =>
            have hnext : Hid (∀ i (h : i < s.length), i < j + 1 → inName i s[i] = true) := Lib.hid fun i h hi => by
              by_cases e : i = j
              · subst e; exact hin
              · exact HH.out i h (by omega)
            have h4 := inName_yes hin
            clear hin
            rcases h4 with ⟨h5, h6⟩ | ⟨h5, h6, h7⟩ | ⟨h5, h6⟩
            · go_wp2
              go_round
              case rel => exact ⟨j + 1, by omega, by go_num, hnext⟩
              case measure => simp [intOf]; omega
            · have e1 : ((j : Int) == 0) = false := by simp; omega
              have e2 : (((s[j]'hlt).toNat : Int) != 45) = true := by simp; omega
              go_wp2
              go_round
              case rel => exact ⟨j + 1, by omega, by go_num, hnext⟩
              case measure => simp [intOf]; omega
            · have e1 : ((j : Int) == 0) = false := by simp; omega
              have e2 : (((s[j]'hlt).toNat : Int) != 45) = false := by simp; omega
              have e3 : ((s[j]'hlt).toNat : Int) < 48 := by omega
              clear h6
              go_wp2
              go_round
              case rel => exact ⟨j + 1, by omega, by go_num, hnext⟩
              case measure => simp [intOf]; omega
          | false =>
            have hno := named_no hlt hin
            have HNO := Lib.hid hno
            obtain ⟨h5, h6⟩ := inName_no hin
            clear hno hin
            by_cases hj0 : j = 0
            · subst hj0
              clear h6
              rcases h5 with h5 | h5
              all_goals
                go_wp2
                all_goals first
                  | (go_ret; exact ⟨retb HNO.out.symm, rfl⟩)
                  | (exfalso; omega)
            · have h7 := h6.resolve_left hj0
              obtain ⟨h8, h9⟩ := h7
              have e1 : ((j : Int) == 0) = false := by simp; omega
              have e2 : (((s[j]'hlt).toNat : Int) != 45) = true := by simpa using h9
              clear h6 h9
              rcases h5 with h5 | h5 <;> rcases h8 with h8 | h8 <;> (try (exfalso; omega))
              all_goals
                go_wp2
                go_ret
                exact ⟨retb HNO.out.symm, rfl⟩
        · go_wp2
          go_ret
          exact ⟨retb (named_yes (by omega) (by omega) (fun i h => HH.out i h (by omega))).symm, rfl⟩
end Go.Proofs.YtplbdlgmjehckadGreatDoor

namespace Go.Proofs.YtplbdlgmjehckadGreatDoor
open Go.RowKit
set_option linter.unusedVariables false
set_option linter.unusedSimpArgs false
theorem named_take {l : B} {j : Nat} (h1 : j + 1 ≤ nameLen l) (h2 : j + 1 ≤ 20) : named (l.take (j + 1)) = true := by
  have hle := nameLen_le l
  refine named_yes (by simp; omega) (by simp; omega) (fun i hi => ?_)
  have hi' : i < j + 1 := by simp at hi; omega
  obtain ⟨h3, h4⟩ := nameLen_in l i (by omega)
  rw [List.getElem_take]; exact h4
theorem named_take_no {l : B} (h : min (nameLen l) 20 < l.length) : named (l.take (min (nameLen l) 20 + 1)) = false := by
  have hle := nameLen_le l
  by_cases h20 : 20 ≤ nameLen l
  · have : min (nameLen l) 20 = 20 := by omega
    rw [this]
    unfold named
    have : (l.take (20 + 1)).length = 21 := by simp; omega
    rw [this]; simp
  · have : min (nameLen l) 20 = nameLen l := by omega
    rw [this] at h ⊢
    have ho := nameLen_out l h
    refine named_no (k := nameLen l) (by simp; omega) ?_
    rw [List.getElem_take]; exact ho
theorem named_ax (c : UInt8) : named [97, c] = isMore c := by
  unfold named
  have : nameLen [97, c] = if isMore c then 2 else 1 := by
    simp only [nameLen]
    rw [if_pos (by decide)]
    simp only [List.takeWhile_cons, List.takeWhile_nil]
    split <;> rfl
  rw [this]
  cases isMore c <;> rfl
theorem more_at {l : B} (h : 20 < l.length) (hn : 20 ≤ nameLen l) : isMore (l[20]'h) = decide (20 < nameLen l) := by
  by_cases h2 : 20 < nameLen l
  · obtain ⟨h3, h4⟩ := nameLen_in l 20 h2
    simpa [inName, h2] using h4
  · have e : nameLen l = 20 := by omega
    have := nameLen_out l (by omega)
    simp only [e] at this
    simpa [inName, h2] using this
theorem named_is (r : Bool) (l : B) (w : World) (h : named l = r) :
    Calls Tryz.prog 98 #[.string (str l)] w fun e w' => e = .returned (.bool r) ∧ w' = w := by
  subst h; exact named_any w l
set_option maxRecDepth 100000 in
set_option maxHeartbeats 1600000 in
theorem sname_sum (w : World) (b : Nat) (s : B) (at_ : Nat) (h : SdAt w b s at_) :
    Calls Tryz.prog 71 #[.pointer (some ⟨b, 0, none⟩)] w (SSum (sName (s.drop at_) at_) w b s (fun _ nm e => e = .returned (.string (str nm)))) := by
  obtain ⟨r, HR⟩ : ∃ r, Hid (sName (s.drop at_) at_ = r) := ⟨_, rfl⟩
  rw [HR.out]
  have H := Lib.hid h
  have c0 := h.c0
  have c1 := h.c1
  have f1 := h.free 1
  have hl := h.2.1
  have hmx := h.2.2
  clear h
  have hnl := nameLen_le (s.drop at_)
  rw [List.length_drop] at hnl
  obtain ⟨n, HN⟩ : ∃ n, Hid (min (nameLen (s.drop at_)) 20 = n) := ⟨_, rfl⟩
  have hn : at_ + n ≤ s.length := by have := HN.out; omega
  have hn20 : n ≤ 20 := by have := HN.out; omega
  clear hnl
  go_enter Tryz.func71, Tryz.ntmps71
  go_upto_block 0 with fail
  go_cut [3] (fun k wx => k = .int .i64 ((at_ + n : Nat) : Int) ∧ Qt w wx)
  case first =>
    go_wp2_with fail
    go_loopw [3] (fun k wr => ∃ j : Nat, j ≤ n ∧ k = .int .i64 ((at_ + j : Nat) : Int) ∧ Hid (Qt w wr)) (fun k _ => s.length - (intOf k).toNat)
    case atStart => exact ⟨0, by omega, rfl, Lib.hid (Qt.refl w)⟩
    case round =>
      obtain ⟨j, hj, rfl, HQ⟩ := hrel
      have c0' := (H.out.quiet HQ.out).c0
      have c1' := (H.out.quiet HQ.out).c1
      by_cases hlt : at_ + j < s.length
      · have e5 : IntKind.i64.wrap ((at_ : Int) + (j : Int) + 1) = (at_ : Int) + (j : Int) + 1 := IntWalk.i64_in _ (by omega)
        have e6 : (0 : Int) ≤ (at_ : Int) + (j : Int) + 1 := by omega
        have e7 : ((at_ : Int) + (j : Int) + 1).toNat = at_ + (j + 1) := by omega
        have e0 : decide ((at_ : Int) + (j : Int) < (s.length : Int)) = true := by simp; omega
        have e8 : (at_ : Int) + (j : Int) + 1 ≤ (s.length : Int) := by omega
        have e9 : (at_ : Int) ≤ (at_ : Int) + (j : Int) + 1 := by omega
        by_cases hjn : j < n
        · have HT : Hid (∀ x, x = j + 1 → named ((s.drop at_).take x) = true) := Lib.hid (fun x hx => by rw [hx]; exact named_take (by have := HN.out; omega) (by omega))
          go_wp2_with fail
          go_quiet ((go_at_call 98; exact Calls.quiet_of_same (named_is true _ _ (HT.out _ (by omega)))))
          go_wp2_with fail
          go_roundw
          case rel => exact ⟨j + 1, by omega, by go_num, Lib.hid (HQ.out.trans ⟨nq, rfl⟩)⟩
          case measure => simp [intOf]; omega
        · have hje : j = n := by omega
          subst hje
          have HT : Hid (∀ x, x = j + 1 → named ((s.drop at_).take x) = false) := Lib.hid (fun x hx => by
            rw [hx]
            have := named_take_no (l := s.drop at_) (by rw [HN.out, List.length_drop]; omega)
            rw [HN.out] at this; exact this)
          go_wp2_with fail
          go_quiet ((go_at_call 98; exact Calls.quiet_of_same (named_is false _ _ (HT.out _ (by omega)))))
          go_wp2_with fail
          go_meet
          case rel => exact ⟨rfl, HQ.out.trans ⟨nq, rfl⟩⟩
      · obtain rfl : j = n := by omega
        have e0 : decide ((at_ : Int) + (j : Int) < (s.length : Int)) = false := by simp; omega
        go_wp2_with fail
        go_quiet (fail)
        go_wp2_with fail
        go_meet
        case rel => exact ⟨rfl, HQ.out.trans ⟨nq, rfl⟩⟩
  case rest =>
    obtain ⟨rfl, hq⟩ := hcut
    have HS := Lib.hid (H.out.quiet hq)
    have HK := Lib.hid (hq.kept (· = b))
    clear c0 c1 f1 hq
    have c0 := HS.out.c0
    have c1 := HS.out.c1
    have f1 := HS.out.free 1
    by_cases h0 : n = 0
    · subst h0
      have hR : Hid (r = .bad ⟨2, at_⟩) := Lib.hid (by rw [← HR.out]; unfold sName; rw [if_pos (.inl (by have := HN.out; omega))])
      have e1 : (((at_ + 0 : Nat) : Int) == (at_ : Int)) = true := by simp
      go_wp2_with fail
      refine (sfail_any 2 _ _ _ _ HS.out).mono ?_
      rintro e w2 ⟨rfl, hq2⟩
      go_wp2_with fail
      exact ⟨rfl, .inl ⟨_, rfl, HK.out.trans (hq2.kept _), hR⟩⟩
    · have e1 : (((at_ : Int) + (n : Int)) == (at_ : Int)) = false := by simp; omega
      have good : ∀ nq, nameLen (s.drop at_) = n → SSum r w b s (fun _ nm e => e = .returned (.string (str nm))) (.returned (.string (str ((s.drop at_).take (at_ + n - at_))))) ((wc.drewN nq).setCell ⟨b, 1, none⟩ (.int .i64 ((at_ : Int) + (n : Int)))) := fun nq hnn =>
        .inr ⟨(s.drop at_).take n, at_ + n, by rw [Nat.add_sub_cancel_left], (HK.out.drewN _).setCell (p := ⟨b, 1, none⟩) (.inl rfl) _, (HS.out.drewN _).set (by omega) hn, Lib.hid (by
          rw [← HR.out]; unfold sName; rw [hnn, if_neg (by omega), List.drop_drop])⟩
      have GOOD := Lib.hid good
      clear good
      by_cases hlt : at_ + n < s.length
      · have e2 : decide ((at_ : Int) + (n : Int) < (s.length : Int)) = true := by simp; omega
        by_cases h20 : n = 20
        · have HM20 := Lib.hid (more_at (l := s.drop at_) (by rw [List.length_drop]; omega) (by have := HN.out; omega))
          subst h20
          have HC := Lib.hid (List.drop_eq_getElem_cons hlt)
          have HT : Hid (named (97 :: (s.drop (at_ + 20)).take 1) = isMore (s[at_ + 20]'hlt)) := Lib.hid (by rw [HC.out]; exact named_ax _)
          have HMM : Hid (isMore (s[at_ + 20]'hlt) = decide (20 < nameLen (s.drop at_))) := Lib.hid (by rw [← HM20.out]; simp)
          cases hm : isMore (s[at_ + 20]'hlt) with
          | true =>
            have hR : Hid (r = .bad ⟨2, at_⟩) := Lib.hid (by rw [← HR.out]; unfold sName; rw [if_pos (.inr (by have := HMM.out; rw [hm] at this; simpa using this.symm))])
            have HM := Lib.hid hm
            clear hm
            go_wp2_with fail
            refine (named_is true _ _ (HT.out.trans HM.out)).mono ?_
            rintro e w2 ⟨rfl, rfl⟩
            go_wp2_with fail
            refine (sfail_any 2 _ _ _ _ HS.out).mono ?_
            rintro e w2 ⟨rfl, hq2⟩
            go_wp2_with fail
            exact ⟨rfl, .inl ⟨_, rfl, HK.out.trans (hq2.kept _), hR⟩⟩
          | false =>
            have HN2 : Hid (nameLen (s.drop at_) = 20) := Lib.hid (by have h1 := HMM.out; rw [hm] at h1; have := HN.out; simp at h1; omega)
            have HM := Lib.hid hm
            clear hm
            go_wp2_with fail
            refine (named_is false _ _ (HT.out.trans HM.out)).mono ?_
            rintro e w2 ⟨rfl, rfl⟩
            go_wp2_with fail
            go_quiet (fail)
            go_wp2_with fail
            go_ret
            exact GOOD.out _ HN2.out
        · have e3 : (((at_ : Int) + (n : Int) - (at_ : Int)) == 20) = false := by simp; omega
          have e4 : ((n : Int) == 20) = false := by simp; omega
          have HN2 : Hid (nameLen (s.drop at_) = n) := Lib.hid (by have := HN.out; omega)
          go_wp2_with fail
          go_quiet (fail)
          go_wp2_with fail
          go_ret
          exact GOOD.out _ HN2.out
      · have e2 : decide ((at_ : Int) + (n : Int) < (s.length : Int)) = false := by simp; omega
        have HN2 : Hid (nameLen (s.drop at_) = n) := Lib.hid (by
          have h1 := HN.out
          by_cases h3 : n < nameLen (s.drop at_)
          · have := nameLen_le (s.drop at_); rw [List.length_drop] at this; omega
          · omega)
        go_wp2_with fail
        go_quiet (fail)
        go_wp2_with fail
        go_ret
        exact GOOD.out _ HN2.out
end Go.Proofs.YtplbdlgmjehckadGreatDoor

namespace Go.Proofs.YtplbdlgmjehckadGreatDoor
open Go.RowKit
set_option linter.unusedVariables false
set_option linter.unusedSimpArgs false
def testCells (t : PTest) : List Value := [.int .i64 t.kind, .string (str t.name), .string (str t.val)]
def TestsIn (w : World) (X : Nat → Prop) (v : Value) (ts : List PTest) : Prop := RowsAt w 3 v (ts.map testCells) ∧ ∀ k, v.ownBlock = some k → ¬ X k ∧ k < w.heap.size
theorem TestsIn.kept {w w' : World} {X X' S : Nat → Prop} {v : Value} {ts : List PTest} (h : TestsIn w X v ts) (hk : Kept S w w') (hS : ∀ k, k < w.heap.size → S k → X k) (hX : ∀ k, k < w.heap.size → X' k → X k) : TestsIn w' X' v ts :=
  ⟨h.1.kept hk (fun k hk' hs => (h.2 k hk').1 (hS k (h.2 k hk').2 hs)), fun k hk' => ⟨fun hx => (h.2 k hk').1 (hX k (h.2 k hk').2 hx), Nat.lt_of_lt_of_le (h.2 k hk').2 hk.size⟩⟩
theorem info_test : (Tryz.prog.info? 195).map (fun i => (i.zero, i.size, i.bytes)) = some (some (.agg #[.int .i64 0, .string ⟨#[]⟩, .string ⟨#[]⟩]), 3, 40) := by kernel_rfl
theorem test_rows {ts : List PTest} : ∀ r ∈ ts.map testCells, r.length = 3 := by
  intro r hr
  obtain ⟨a, _, rfl⟩ := List.mem_map.1 hr
  rfl
theorem zipRows {α : Type} {f : α → Value → List Value} {size : Nat} (hf : ∀ a v, (f a v).length = size) {xs : List α} {vs : List Value} : ∀ r ∈ List.zipWith f xs vs, r.length = size := by
  intro r hr
  obtain ⟨i, hi, rfl⟩ := List.mem_iff_getElem.1 hr
  simp [hf]
def NestIn {α : Type} (f : α → Value → List Value) (size : Nat) (Q : World → (Nat → Prop) → Value → α → Prop) (w : World) (X : Nat → Prop) (v : Value) (xs : List α) : Prop :=
  ∃ vs : List Value, vs.length = xs.length ∧ RowsAt w size v (List.zipWith f xs vs) ∧ (∀ k, v.ownBlock = some k → ¬ X k ∧ k < w.heap.size) ∧ ∀ (i : Nat) (x : α) (u : Value), xs[i]? = some x → vs[i]? = some u → Q w X u x
def Lasts {α : Type} (Q : World → (Nat → Prop) → Value → α → Prop) : Prop :=
  ∀ (w w' : World) (X X' S : Nat → Prop) (v : Value) (x : α), Q w X v x → Kept S w w' → (∀ k, k < w.heap.size → S k → X k) → (∀ k, k < w.heap.size → X' k → X k) → Q w' X' v x
theorem tests_lasts : Lasts TestsIn := fun _ _ _ _ _ _ _ h hk hS hX => h.kept hk hS hX
theorem nest_lasts {α : Type} {f : α → Value → List Value} {size : Nat} {Q : World → (Nat → Prop) → Value → α → Prop} (hQ : Lasts Q) : Lasts (NestIn f size Q) := by
  intro w w' X X' S v xs ⟨vs, h1, h2, h3, h4⟩ hk hS hX
  exact ⟨vs, h1, h2.kept hk (fun k hk' hs => (h3 k hk').1 (hS k (h3 k hk').2 hs)), fun k hk' => ⟨fun hx => (h3 k hk').1 (hX k (h3 k hk').2 hx), Nat.lt_of_lt_of_le (h3 k hk').2 hk.size⟩,
    fun i x u hx hu => hQ _ _ _ _ _ _ _ (h4 i x u hx hu) hk hS hX⟩
structure NestOwn {α : Type} (f : α → Value → List Value) (size e : Nat) (Q : World → (Nat → Prop) → Value → α → Prop) (w : World) (base : Nat) (v : Value) (xs : List α) (vs : List Value) : Prop where
  len : vs.length = xs.length
  own : w.ownsRow base e size v xs.length (List.zipWith f xs vs).flatten
  nest : ∀ (i : Nat) (x : α) (u : Value), xs[i]? = some x → vs[i]? = some u → Q w (fun k => k < base ∨ v.ownBlock = some k) u x
section
variable {α : Type} {f : α → Value → List Value} {size e : Nat} {Q : World → (Nat → Prop) → Value → α → Prop} {w w' : World} {base b : Nat} {v v' : Value} {xs : List α} {vs : List Value}
theorem NestOwn.kept (h : NestOwn f size e Q w base v xs vs) (hQ : Lasts Q) (hb : b < base) (hk : Kept (· = b) w w') : NestOwn f size e Q w' base v xs vs :=
  ⟨h.len, owns_kept h.own hk (fun k hk => by have := (h.own.lt k hk).1; omega), fun i x u hx hu => hQ _ _ _ _ _ _ _ (h.nest i x u hx hu) hk (fun k _ hs => .inl (by have : k = b := hs; omega)) (fun k _ hx => hx)⟩
theorem NestOwn.alloc (h : NestOwn f size e Q w base v xs vs) (hQ : Lasts Q) (o : Obj) : NestOwn f size e Q (w.alloc o) base v xs vs :=
  ⟨h.len, h.own.alloc _, fun i x u hx hu => hQ _ _ _ _ (fun _ => False) _ _ (h.nest i x u hx hu) ((Kept.refl _ _).alloc _) (fun k _ hs => hs.elim) (fun k _ hx => hx)⟩
theorem NestOwn.other (h : NestOwn f size e Q w base v xs vs) (hQ : ∀ (u : Value) (x : α), u ∈ vs → Q w (fun k => k < base ∨ v.ownBlock = some k) u x → Q w' (fun k => k < base ∨ v.ownBlock = some k) u x) {S : Nat → Prop} (hk : Kept S w w') (hs : ∀ k, v.ownBlock = some k → ¬ S k) : NestOwn f size e Q w' base v xs vs :=
  ⟨h.len, owns_kept h.own hk hs, fun i x u hx hu => hQ u x (List.mem_of_getElem? hu) (h.nest i x u hx hu)⟩
theorem NestOwn.nil (w : World) (base : Nat) : NestOwn f size e Q w base (.slice none 0 0) [] [] := ⟨rfl, World.ownsRow_nil _ _ _ _, fun i x u hx => by simp at hx⟩
theorem NestOwn.form (h : NestOwn f size e Q w base v xs vs) : ∃ vo vc, v = .slice vo xs.length vc := by
  rcases h.own.2 with ⟨h, hn⟩ | ⟨g, cap, cur, h, _⟩
  · exact ⟨none, 0, by rw [h, hn]⟩
  · exact ⟨_, cap, h⟩
theorem NestOwn.push {gg cap : Nat} {x : α} {u : Value} {o : Obj} (h : NestOwn f size e Q w base v xs vs) (hQ : Lasts Q) (hu : Q w (fun k => k < base ∨ v.ownBlock = some k) u x)
    (hown : w'.ownsRow base e size (.slice (some ⟨gg, 0, none⟩) (xs.length + 1) cap) (xs.length + 1) ((List.zipWith f xs vs).flatten ++ f x u)) (hg : (w.alloc o).grownBy w' v.ownBlock) (hat : v.ownBlock = some gg ∨ w.heap.size ≤ gg) :
    NestOwn f size e Q w' base (.slice (some ⟨gg, 0, none⟩) (xs.length + 1) cap) (xs ++ [x]) (vs ++ [u]) := by
  have hk : Kept (fun k => v.ownBlock = some k) w w' := ((Kept.refl _ w).alloc o).grown hg (fun k hk => .inl hk)
  have new : ∀ {y : α} {z : Value}, Q w (fun k => k < base ∨ v.ownBlock = some k) z y → Q w' (fun k => k < base ∨ (Value.slice (some ⟨gg, 0, none⟩) (xs.length + 1) cap).ownBlock = some k) z y := fun hq =>
    hQ _ _ _ _ _ _ _ hq hk (fun k _ hs => .inr hs) (fun k hlt hx => by
      rcases hx with hx | hx
      · exact .inl hx
      · simp only [Value.ownBlock, Option.some.injEq] at hx
        subst hx
        rcases hat with h1 | h1
        · exact .inr h1
        · omega)
  refine ⟨by simp [h.len], ?_, fun i y z hy hz => ?_⟩
  · rw [List.zipWith_append (by rw [h.len])]
    simpa using hown
  · by_cases hi : i < xs.length
    · rw [List.getElem?_append_left hi] at hy
      rw [List.getElem?_append_left (by rw [h.len]; exact hi)] at hz
      exact new (h.nest i y z hy hz)
    · have hi2 := (List.getElem?_eq_some_iff.1 hy).1
      simp at hi2
      have : i = xs.length := by omega
      subst this
      simp at hy
      rw [← h.len] at hz
      simp at hz
      subst hy; subst hz
      exact new hu
theorem NestOwn.done (h : NestOwn f size e Q w base v xs vs) (hf : ∀ a v, (f a v).length = size) (hQ : Lasts Q) : NestIn f size Q w (fun k => k < base) v xs :=
  ⟨vs, h.len, rowsAt_of_owns (zipRows hf) (by simp [h.len]) h.own, fun k hk => ⟨fun hx => by have := (h.own.lt k hk).1; omega, (h.own.lt k hk).2⟩,
    fun i x u hx hu => hQ _ _ _ _ (fun _ => False) _ _ (h.nest i x u hx hu) (Kept.refl _ _) (fun k _ hs => hs.elim) (fun k _ hx => .inl hx)⟩
end
def partCells (p : PPart) (v : Value) : List Value := [.int .i64 p.join, v]
def PartsIn (w : World) (X : Nat → Prop) (v : Value) (ps : List PPart) : Prop := NestIn partCells 2 (fun w X u (p : PPart) => TestsIn w X u p.tests) w X v ps
theorem part_lasts : Lasts (fun w X u (p : PPart) => TestsIn w X u p.tests) := fun _ _ _ _ _ _ _ h hk hS hX => TestsIn.kept h hk hS hX
theorem parts_lasts : Lasts PartsIn := nest_lasts part_lasts
def selCells (s : PSel) (v : Value) : List Value := [v]
def SelsIn (w : World) (X : Nat → Prop) (v : Value) (ss : List PSel) : Prop := NestIn selCells 1 PartsIn w X v ss
theorem sels_lasts : Lasts SelsIn := nest_lasts parts_lasts
def declCells (d : PDecl) : List Value := [.string (str d.name), .string (str d.val), .bool d.strong]
def DeclsIn (w : World) (X : Nat → Prop) (v : Value) (ds : List PDecl) : Prop := RowsAt w 3 v (ds.map declCells) ∧ ∀ k, v.ownBlock = some k → ¬ X k ∧ k < w.heap.size
theorem decls_lasts : Lasts DeclsIn := fun w w' X X' S v ds h hk hS hX =>
  ⟨h.1.kept hk (fun k hk' hs => (h.2 k hk').1 (hS k (h.2 k hk').2 hs)), fun k hk' => ⟨fun hx => (h.2 k hk').1 (hX k (h.2 k hk').2 hx), Nat.lt_of_lt_of_le (h.2 k hk').2 hk.size⟩⟩
def vFst : Value → Value
  | .tuple a => a.getD 0 (.bool false)
  | v => v
def vSnd : Value → Value
  | .tuple a => a.getD 1 (.bool false)
  | v => v
def ruleCells (r : PRule) (u : Value) : List Value := [.string (str r.media), vFst u, vSnd u, .int .i64 r.lo, .int .i64 r.hi]
def RuleIn (w : World) (X : Nat → Prop) (u : Value) (r : PRule) : Prop := ∃ sv dv, u = .tuple #[sv, dv] ∧ SelsIn w X sv r.sels ∧ DeclsIn w X dv r.decls
theorem rule_lasts : Lasts RuleIn := fun w w' X X' S u r ⟨sv, dv, h1, h2, h3⟩ hk hS hX => ⟨sv, dv, h1, sels_lasts _ _ _ _ _ _ _ h2 hk hS hX, decls_lasts _ _ _ _ _ _ _ h3 hk hS hX⟩
def RulesIn (w : World) (X : Nat → Prop) (v : Value) (rs : List PRule) : Prop := NestIn ruleCells 5 RuleIn w X v rs
theorem ruleCells_len (r : PRule) (u : Value) : (ruleCells r u).length = 5 := rfl
theorem partCells_len (p : PPart) (u : Value) : (partCells p u).length = 2 := rfl
theorem selCells_len (p : PSel) (u : Value) : (selCells p u).length = 1 := rfl
theorem decl_rows {ds : List PDecl} : ∀ r ∈ ds.map declCells, r.length = 3 := by
  intro r hr
  obtain ⟨a, _, rfl⟩ := List.mem_map.1 hr
  rfl
theorem info_part : (Tryz.prog.info? 193).map (fun i => (i.zero, i.size, i.bytes)) = some (some (.agg #[.int .i64 0, .slice none 0 0]), 2, 32) := by kernel_rfl
theorem info_decl : (Tryz.prog.info? 98).map (fun i => (i.zero, i.size, i.bytes)) = some (some (.agg #[.string ⟨#[]⟩, .string ⟨#[]⟩, .bool false]), 3, 40) := by kernel_rfl
theorem info_rule : (Tryz.prog.info? 49).map (fun i => (i.zero, i.size, i.bytes)) = some (some (.agg #[.string ⟨#[]⟩, .slice none 0 0, .slice none 0 0, .int .i64 0, .int .i64 0]), 5, 80) := by kernel_rfl
theorem info_sel : (Tryz.prog.info? 169).map (fun i => (i.zero, i.size, i.bytes)) = some (some (.slice none 0 0), 1, 24) := by kernel_rfl
theorem info_str : (Tryz.prog.info? 9).map (fun i => (i.zero, i.size, i.bytes)) = some (some (.string ⟨#[]⟩), 1, 16) := by kernel_rfl
theorem RowsAt.at {w : World} {size : Nat} {a : Option Addr} {n cap : Nat} {rows : List (List Value)} (h : RowsAt w size (.slice a n cap) rows) {k : Nat} {r : List Value} (hx : rows[k]? = some r) :
    ∃ b off, a = some ⟨b, off, none⟩ ∧ ∀ j c, r[j]? = some c → w.cell? ⟨b, off + k * size + j, none⟩ = some c := by
  obtain ⟨a', cap', hv, h1, h2, h3⟩ := h
  simp only [Value.slice.injEq] at hv
  obtain ⟨rfl, _, _⟩ := hv
  obtain ⟨b, off, ha, h4⟩ := h3 (by intro hn; subst hn; simp at hx)
  exact ⟨b, off, ha, h4 k r hx⟩
theorem DeclsIn.form {w : World} {X : Nat → Prop} {v : Value} {ds : List PDecl} (h : DeclsIn w X v ds) : ∃ a cap, v = .slice a ds.length cap ∧ ds.length ≤ cap ∧ cap ≤ maxLen := by
  obtain ⟨a, cap, e, h1, h2, _⟩ := h.1
  exact ⟨a, cap, by rw [e, List.length_map], by simpa using h1, h2⟩
theorem DeclsIn.at {w : World} {X : Nat → Prop} {a : Option Addr} {n cap : Nat} {ds : List PDecl} (h : DeclsIn w X (.slice a n cap) ds) {k : Nat} {x : PDecl} (hx : ds[k]? = some x) :
    ∃ b off, a = some ⟨b, off, none⟩ ∧ w.cell? ⟨b, off + k * 3, none⟩ = some (.string (str x.name)) ∧ w.cell? ⟨b, off + k * 3 + 1, none⟩ = some (.string (str x.val)) ∧ w.cell? ⟨b, off + k * 3 + 2, none⟩ = some (.bool x.strong) := by
  obtain ⟨b, off, ha, h4⟩ := RowsAt.at h.1 (k := k) (r := declCells x) (by simp [hx])
  exact ⟨b, off, ha, h4 0 _ rfl, h4 1 _ rfl, h4 2 _ rfl⟩
theorem DeclsIn.quiet {w w' : World} {X : Nat → Prop} {v : Value} {ds : List PDecl} (h : DeclsIn w X v ds) (hq : Qt w w') : DeclsIn w' X v ds :=
  decls_lasts _ _ _ _ _ _ _ h (hq.kept (fun _ => False)) (fun _ _ h => h.elim) (fun _ _ h => h)
theorem TestsIn.form {w : World} {X : Nat → Prop} {v : Value} {ds : List PTest} (h : TestsIn w X v ds) : ∃ a cap, v = .slice a ds.length cap ∧ ds.length ≤ cap ∧ cap ≤ maxLen := by
  obtain ⟨a, cap, e, h1, h2, _⟩ := h.1
  exact ⟨a, cap, by rw [e, List.length_map], by simpa using h1, h2⟩
theorem TestsIn.at {w : World} {X : Nat → Prop} {a : Option Addr} {n cap : Nat} {ds : List PTest} (h : TestsIn w X (.slice a n cap) ds) {k : Nat} {x : PTest} (hx : ds[k]? = some x) :
    ∃ b off, a = some ⟨b, off, none⟩ ∧ ∀ j c, (testCells x)[j]? = some c → w.cell? ⟨b, off + k * 3 + j, none⟩ = some c :=
  RowsAt.at h.1 (k := k) (r := testCells x) (by simp [hx])
theorem TestsIn.quiet {w w' : World} {X : Nat → Prop} {v : Value} {ds : List PTest} (h : TestsIn w X v ds) (hq : Qt w w') : TestsIn w' X v ds :=
  tests_lasts _ _ _ _ _ _ _ h (hq.kept (fun _ => False)) (fun _ _ h => h.elim) (fun _ _ h => h)
section
variable {α : Type} {f : α → Value → List Value} {size : Nat} {Q : World → (Nat → Prop) → Value → α → Prop} {w w' : World} {X : Nat → Prop} {v : Value} {xs : List α}
theorem NestIn.form (h : NestIn f size Q w X v xs) : ∃ a cap, v = .slice a xs.length cap ∧ xs.length ≤ cap ∧ cap ≤ maxLen := by
  obtain ⟨vs, h0, ⟨a, cap, e, h1, h2, _⟩, _⟩ := h
  exact ⟨a, cap, by rw [e]; simp [h0], by simpa [h0] using h1, h2⟩
theorem NestIn.at {a : Option Addr} {n cap : Nat} (h : NestIn f size Q w X (.slice a n cap) xs) {k : Nat} {x : α} (hx : xs[k]? = some x) :
    ∃ b off u, a = some ⟨b, off, none⟩ ∧ (∀ j c, (f x u)[j]? = some c → w.cell? ⟨b, off + k * size + j, none⟩ = some c) ∧ Q w X u x := by
  obtain ⟨vs, h0, h1, _, h4⟩ := h
  have hk := (List.getElem?_eq_some_iff.1 hx).1
  have hu : vs[k]? = some (vs[k]'(by omega)) := List.getElem?_eq_getElem _
  obtain ⟨b, off, ha, h5⟩ := RowsAt.at h1 (k := k) (r := f x (vs[k]'(by omega))) (by simp [List.getElem?_zipWith, hx, hu])
  exact ⟨b, off, _, ha, h5, h4 k x _ hx hu⟩
theorem NestIn.quiet (hQ : Lasts Q) (h : NestIn f size Q w X v xs) (hq : Qt w w') : NestIn f size Q w' X v xs :=
  nest_lasts hQ _ _ _ _ _ _ _ h (hq.kept (fun _ => False)) (fun _ _ h => h.elim) (fun _ _ h => h)
end
end Go.Proofs.YtplbdlgmjehckadGreatDoor

namespace Go.Proofs.YtplbdlgmjehckadGreatDoor
open Go.RowKit
set_option linter.unusedVariables false
set_option linter.unusedSimpArgs false
theorem seat_is (r : Bool) (word : B) (w : World) (b : Nat) (s : B) (at_ : Nat) (h : SdAt w b s at_) (hp : word.isPrefixOf (s.drop at_) = r) :
    Calls Tryz.prog 70 #[.pointer (some ⟨b, 0, none⟩), .string (str word)] w fun e w' => e = .returned (.bool r) ∧ Kept (· = b) w w' ∧ SdAt w' b s (at_ + if r then word.length else 0) := by
  cases r with
  | false => exact (seat_no word w b s at_ h hp).mono fun e w' ⟨h1, h2⟩ => ⟨h1, (show Qt w w' from h2).kept _, h.quiet h2⟩
  | true => exact seat_yes word w b s at_ h hp
theorem SSum.bad {α : Type} {X : Ans (α × B × Nat)} {w : World} {b : Nat} {s : B} {R : World → α → Ending → Prop} {w' : World} {f : Flt} (hk : Kept (· = b) w w') (hX : X = .bad f) : SSum X w b s R (sthrown f) w' :=
  .inl ⟨f, rfl, hk, Lib.hid hX⟩
theorem keep3 {w w2 : World} {b nb : Nat} (h : w.heap.size ≤ nb) (hk : Kept (· = b) w w2) (x y z : Value) :
    Kept (· = b) w (((w2.setCell ⟨nb, 0, none⟩ x).setCell ⟨nb, 1, none⟩ y).setCell ⟨nb, 2, none⟩ z) :=
  ((hk.setCell (p := ⟨nb, 0, none⟩) (.inr h) _).setCell (p := ⟨nb, 1, none⟩) (.inr h) _).setCell (p := ⟨nb, 2, none⟩) (.inr h) _
theorem own_grow {w0 w w' : World} {b base e size n : Nat} {v : Value} {xs : List Value} {o : Obj} (hk : Kept (· = b) w0 w) (hb : w0.heap.size = base) (hown : w.ownsRow base e size v n xs) (hg : (w.alloc o).grownBy w' v.ownBlock) : Kept (· = b) w0 w' :=
  (hk.alloc o).grown hg (fun k hk => .inr (by have := (hown.lt k hk).1; omega))
theorem own_rd {w w' : World} {b base e size n at_ : Nat} {s : B} {v : Value} {xs : List Value} {o : Obj} (h : SdAt w b s at_) (hb : b < base) (hown : w.ownsRow base e size v n xs) (hg : (w.alloc o).grownBy w' v.ownBlock) : SdAt w' b s at_ :=
  h.kept (((Kept.refl (fun k => v.ownBlock = some k) w).alloc o).grown hg (fun k hk => .inl hk)) (fun hk => by have := (hown.lt b hk).1; omega)
end Go.Proofs.YtplbdlgmjehckadGreatDoor

