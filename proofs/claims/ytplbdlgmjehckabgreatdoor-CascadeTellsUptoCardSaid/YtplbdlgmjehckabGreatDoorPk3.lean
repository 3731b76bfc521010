/-
  Lemmas for the claims of this seat: the program's functions walked, and plain laws. In this order: Kit Mem Maps MapFn ShCells NdMem Reads Ret GetAhead Spl.
-/
import Derived.Test.YtplbdlgmjehckabGreatDoorRows
import Derived.WalkKit
import Derived.WalkSpells
import Derived.WalkLawsBesides
import Derived.BigQuiet
import Derived.Lib.Hide
import Derived.Deep.DeepFit
import Derived.Outline
import Derived.Handy
import Derived.ProofKit
import Derived.OpenShut
import Derived.Test.YtplbdlgmjehckabGreatDoorPk1
import Derived.Deep.QuietTactic
import Derived.MapKept
import Derived.WideMake
import Derived.Maps.Own
import Derived.Deep.DeepCutAuto
import Derived.Deep.CutBlock
import Derived.Deep.Light
import Derived.Test.YtplbdlgmjehckabGreatDoorShelf
import Derived.Lib.SplitLaws
namespace Go.Proofs.YtplbdlgmjehckabGreatDoor
open Go.RowKit Go.ChangeShapes Go.WideShapes Go.ChangeAt
theorem trodAll_below {H : Type} {enc : TypeId × Value → H} {P : Program} (hl : laidOutB P = true) {W W' : World} (hb : Below W.heap.size W W') :
    ∀ (ts : List TypeId) (vs : List Value) (ds : List (DataW H)) (ps : List MemPlace), (∀ t ∈ ts, P.readableRec t = true ∧ t < P.types.size) → (∀ x ∈ ps, x.block < W.heap.size) →
      DataW.TrodAll enc P W 0 (fun _ => true) true ts vs ds ps → DataW.TrodAll enc P W' 0 (fun b => decide (b < W.heap.size)) true ts vs ds ps
  | [], [], [], _, _, _, h => h
  | t :: ts, v :: vs, d :: ds, ps, hr, hlt, h => by
    obtain ⟨p, q, h1, h2, rfl⟩ := h
    exact ⟨p, q, h1 |> fun h1 => hb |> fun hb => Below.trod hl (hr t (by simp)).1 (hr t (by simp)).2 h1 hb (fun x hx => hlt x (by simp [hx])),
      trodAll_below hl hb ts vs ds q (fun t ht => hr t (by simp [ht])) (fun x hx => hlt x (by simp [hx])) h2, rfl⟩
theorem law_post {H : Type} {enc : TypeId × Value → H} {P : Program} {f : Func} {s : ChangeSpec} {apart handsOn : Bool} {W W' : World} {args : Array Value} {ds gs : List (DataW H)} {before : List MemPlace} {tb : TypeId}
    (hl : laidOutB P = true) (htb : P.underlying tb = some .bool) (hrt : f.resultTypes = #[tb]) (hr : ∀ t ∈ f.params.toList, P.readableRec t = true ∧ t < P.types.size) (hsv : s.vars = [])
    (hW : DataW.Whole enc P f.params.toList s.vars apart W args.toList ds gs before)
    (hres : (s.fn H (ds ++ gs)).results = [.lit (.bool true)]) (harg : (s.fn H (ds ++ gs)).args = ds) (hvar : (s.fn H (ds ++ gs)).vars = [])
    (hb : Below W.heap.size W W') : s.post enc P f apart true handsOn false W args (.bool true) W' := by
  have hlt := hW.lt
  obtain ⟨p, q, hA, hV, hpq, hfz, hnd⟩ := hW
  have hgs : gs = [] ∧ q = [] := by
    rw [hsv] at hV
    cases gs with
    | nil => exact ⟨rfl, hV⟩
    | cons g gs => exact hV.elim
  refine ⟨ds, gs, before, [], p, [], ⟨p, q, hA, hV, hpq, hfz, hnd⟩, ?_, ?_, ?_, hb.frame _, fun h => by cases h⟩
  · rw [hrt, hres]
    exact trodAll_cons_mk (shut_bool htb _) trodAll_mk0
  · rw [harg]
    exact trodAll_below hl hb _ _ _ _ hr (fun x hx => hlt x (by rw [hpq]; simp [hx])) hA
  · rw [hsv, hvar]; rfl
end Go.Proofs.YtplbdlgmjehckabGreatDoor

namespace Go.Proofs.YtplbdlgmjehckabGreatDoor
open Go.RowKit
set_option linter.unusedVariables false
set_option linter.unusedSimpArgs false
structure Kept (S : Nat → Prop) (w w' : World) : Prop where
  os : w'.os = w.os
  tape : w'.tape = w.tape
  output : w'.output = w.output
  size : w.heap.size ≤ w'.heap.size
  block : ∀ k, k < w.heap.size → ¬ S k → w'.heap[k]? = w.heap[k]?
theorem Kept.refl (S : Nat → Prop) (w : World) : Kept S w w := ⟨rfl, rfl, rfl, Nat.le_refl _, fun _ _ _ => rfl⟩
theorem Kept.trans {S : Nat → Prop} {a b c : World} (h : Kept S a b) (k : Kept S b c) : Kept S a c :=
  ⟨k.os.trans h.os, k.tape.trans h.tape, k.output.trans h.output, Nat.le_trans h.size k.size,
    fun i hi hs => (k.block i (Nat.lt_of_lt_of_le hi h.size) hs).trans (h.block i hi hs)⟩
theorem Kept.trans' {S T : Nat → Prop} {a b c : World} (h : Kept S a b) (k : Kept T b c) (hT : ∀ i, i < a.heap.size → T i → S i) : Kept S a c :=
  ⟨k.os.trans h.os, k.tape.trans h.tape, k.output.trans h.output, Nat.le_trans h.size k.size,
    fun i hi hs => (k.block i (Nat.lt_of_lt_of_le hi h.size) (fun ht => hs (hT i hi ht))).trans (h.block i hi hs)⟩
theorem Kept.mono {S T : Nat → Prop} {a b : World} (h : Kept S a b) (hs : ∀ k, k < a.heap.size → S k → T k) : Kept T a b :=
  ⟨h.os, h.tape, h.output, h.size, fun i hi ht => h.block i hi (fun x => ht (hs i hi x))⟩
theorem Kept.drewN {S : Nat → Prop} {a b : World} (h : Kept S a b) (n : Nat) : Kept S a (b.drewN n) := ⟨h.os, h.tape, h.output, h.size, h.block⟩
theorem Kept.drew {S : Nat → Prop} {a b : World} (h : Kept S a b) : Kept S a b.drew := ⟨h.os, h.tape, h.output, h.size, h.block⟩
theorem Kept.alloc {S : Nat → Prop} {a b : World} (h : Kept S a b) (o : Obj) : Kept S a (b.alloc o) :=
  h.trans ⟨rfl, rfl, rfl, by simp, fun k hk _ => Below.heap_alloc _ _ _ hk⟩
theorem Kept.setCell {S : Nat → Prop} {a b : World} (h : Kept S a b) {p : Addr} (hp : S p.block ∨ a.heap.size ≤ p.block) (u : Value) : Kept S a (b.setCell p u) :=
  ⟨h.os, h.tape, h.output, by simpa [World.setCell] using h.size, fun i hi hs => (Below.heap_setCell b p u i (by
    rintro rfl
    rcases hp with hp | hp
    · exact hs hp
    · omega)).trans (h.block i hi hs)⟩
theorem Kept.grown {S : Nat → Prop} {a b c : World} {row : Option Nat} (h : Kept S a b) (hg : b.grownBy c row) (hr : ∀ k, row = some k → S k ∨ a.heap.size ≤ k) : Kept S a c :=
  ⟨hg.os.trans h.os, hg.tape.trans h.tape, hg.output.trans h.output, Nat.le_trans h.size hg.size,
    fun i hi hs => (hg.block i (Nat.lt_of_lt_of_le hi h.size) (fun e => by
      rcases hr i e.symm with x | x
      · exact hs x
      · omega)).trans (h.block i hi hs)⟩
theorem Kept.below {a b : World} (h : Kept (fun _ => False) a b) : Below a.heap.size a b := ⟨h.os, h.tape, h.output, h.size, fun k hk => h.block k hk id⟩
theorem Kept.of_below {S : Nat → Prop} {a b : World} (h : Below a.heap.size a b) : Kept S a b := ⟨h.os, h.tape, h.output, h.size, fun k hk _ => h.block k hk⟩
theorem Kept.cell {S : Nat → Prop} {a b : World} (h : Kept S a b) {p : Addr} {v : Value} (hs : ¬ S p.block) (hc : a.cell? p = some v) : b.cell? p = some v :=
  (World.cell?_of_block (h.block p.block (World.block_lt_of_cell? a p hc) hs)).trans hc
theorem Kept.frozen {S : Nat → Prop} {a b : World} (h : Kept S a b) {p : Addr} (hs : ¬ S p.block) (hl : p.block < a.heap.size) {x : Bool} (hc : a.frozen? p = x) : b.frozen? p = x :=
  (World.frozen?_of_block (h.block p.block hl hs)).trans hc
theorem Kept.heap {S : Nat → Prop} {a b : World} (h : Kept S a b) {k : Nat} {o : Obj} (hs : ¬ S k) (hc : a.heap[k]? = some o) : b.heap[k]? = some o :=
  (h.block k (Array.getElem?_eq_some_iff.1 hc).1 hs).trans hc
def Qt (w w' : World) : Prop := ∃ n, w' = w.drewN n
theorem Qt.refl (w : World) : Qt w w := ⟨0, rfl⟩
theorem Qt.kept {w w' : World} (h : Qt w w') (S : Nat → Prop) : Kept S w w' := by obtain ⟨n, rfl⟩ := h; exact (Kept.refl S w).drewN n
theorem Qt.trans {a b c : World} (h : Qt a b) (k : Qt b c) : Qt a c := by
  obtain ⟨n, rfl⟩ := h; obtain ⟨m, rfl⟩ := k; exact ⟨n + m, by rw [World.drewN_drewN]⟩
theorem Qt.heap {w w' : World} (h : Qt w w') : w'.heap = w.heap := by obtain ⟨n, rfl⟩ := h; rfl
theorem cellIn {w : World} {b : Nat} {cs : Array Value} {t : TypeId} {fz : Nat × Nat} (h : w.heap[b]? = some (.cells cs t fz)) (k : Nat) {v : Value} (hv : cs[k]? = some v) :
    w.cell? ⟨b, k, none⟩ = some v := (cell_of_row w b k cs t fz h).trans hv
theorem freeIn {w : World} {b : Nat} {cs : Array Value} {t : TypeId} (h : w.heap[b]? = some (.cells cs t (0, 0))) (k : Nat) : w.frozen? ⟨b, k, none⟩ = false := by
  simp [World.frozen?, h]
theorem ltIn {w : World} {b : Nat} {o : Obj} (h : w.heap[b]? = some o) : b < w.heap.size := (Array.getElem?_eq_some_iff.1 h).1
theorem setIn {w : World} {b : Nat} {cs : Array Value} {t : TypeId} {fz : Nat × Nat} (h : w.heap[b]? = some (.cells cs t fz)) (k : Nat) (v : Value) :
    (w.setCell ⟨b, k, none⟩ v).heap[b]? = some (.cells (cs.setIfInBounds k v) t fz) := by
  simp [World.setCell, Array.getElem?_modify, h]
theorem newIn (w : World) (o : Obj) : (w.alloc o).heap[w.heap.size]? = some o := heap_alloc_new w o
theorem oldIn {w : World} {b : Nat} {o : Obj} (h : w.heap[b]? = some o) (o' : Obj) : (w.alloc o').heap[b]? = some o := (heap_alloc_old w o' (ltIn h)).trans h
theorem cell_alloc {w : World} {a : Addr} {v : Value} (h : w.cell? a = some v) (o : Obj) : (w.alloc o).cell? a = some v := (World.cell?_alloc_lt w o a (World.block_lt_of_cell? w a h)).trans h
theorem otherIn {w : World} {b : Nat} {o : Obj} (h : w.heap[b]? = some o) (p : Addr) (v : Value) (hp : b ≠ p.block) : (w.setCell p v).heap[b]? = some o := (Below.heap_setCell w p v b hp).trans h
def RowsAt (w : World) (size : Nat) (v : Value) (rows : List (List Value)) : Prop :=
  ∃ a cap, v = .slice a rows.length cap ∧ rows.length ≤ cap ∧ cap ≤ maxLen ∧ (rows ≠ [] → ∃ b off, a = some ⟨b, off, none⟩ ∧
    ∀ i r, rows[i]? = some r → ∀ j c, r[j]? = some c → w.cell? ⟨b, off + i * size + j, none⟩ = some c)
theorem RowsAt.kept {w w' : World} {size : Nat} {v : Value} {rows : List (List Value)} {S : Nat → Prop} (h : RowsAt w size v rows) (hk : Kept S w w')
    (hs : ∀ k, v.ownBlock = some k → ¬ S k) : RowsAt w' size v rows := by
  obtain ⟨a, cap, rfl, h1, h2, h3⟩ := h
  refine ⟨a, cap, rfl, h1, h2, fun hne => ?_⟩
  obtain ⟨b, off, rfl, h4⟩ := h3 hne
  exact ⟨b, off, rfl, fun i r hr j c hc => hk.cell (hs b rfl) (h4 i r hr j c hc)⟩
theorem RowsAt.below {w w' : World} {size : Nat} {v : Value} {rows : List (List Value)} (h : RowsAt w size v rows) (hb : Below w.heap.size w w') : RowsAt w' size v rows :=
  h.kept (S := fun _ => False) (Kept.of_below hb) (fun _ _ => id)
theorem RowsAt.quiet {w w' : World} {size : Nat} {v : Value} {rows : List (List Value)} (h : RowsAt w size v rows) (hk : Qt w w') : RowsAt w' size v rows :=
  h.kept (S := fun _ => False) (hk.kept _) (fun _ _ => id)
theorem RowsAt.alloc {w : World} {size : Nat} {v : Value} {rows : List (List Value)} (h : RowsAt w size v rows) (o : Obj) : RowsAt (w.alloc o) size v rows :=
  h.kept (S := fun _ => False) ((Kept.refl _ w).alloc o) (fun _ _ => id)
theorem RowsAt.nil (w : World) (size : Nat) : RowsAt w size (.slice none 0 0) [] := ⟨none, 0, rfl, Nat.le_refl _, by simp [maxLen], fun h => absurd rfl h⟩
theorem flatten_get (size : Nat) : ∀ (rows : List (List Value)), (∀ r ∈ rows, r.length = size) → ∀ i r, rows[i]? = some r → ∀ j c, r[j]? = some c → rows.flatten[i * size + j]? = some c
  | [], _, i, r, h, _, _, _ => by simp at h
  | r0 :: rows, hl, i, r, h, j, c, hc => by
    have h0 := hl r0 (by simp)
    cases i with
    | zero =>
      simp at h; subst h
      have : j < r0.length := (List.getElem?_eq_some_iff.1 hc).1
      simp only [Nat.zero_mul, Nat.zero_add, List.flatten_cons]
      rw [List.getElem?_append_left this]; exact hc
    | succ i =>
      simp only [List.getElem?_cons_succ] at h
      have := flatten_get size rows (fun r hr => hl r (by simp [hr])) i r h j c hc
      simp only [List.flatten_cons]
      rw [List.getElem?_append_right (by rw [h0, Nat.succ_mul]; omega), h0]
      rw [show (i + 1) * size + j - size = i * size + j from by rw [Nat.succ_mul]; omega]
      exact this
theorem owns_kept {w w' : World} {S : Nat → Prop} {base e size n : Nat} {v : Value} {xs : List Value} (h : w.ownsRow base e size v n xs) (hk : Kept S w w') (hs : ∀ k, v.ownBlock = some k → ¬ S k) :
    w'.ownsRow base e size v n xs := by
  refine ⟨h.1, ?_⟩
  rcases h.2 with x | ⟨g, cap, cur, hv, hg, hh, rest⟩
  · exact .inl x
  · exact .inr ⟨g, cap, cur, hv, hg, hk.heap (hs g (by rw [hv]; rfl)) hh, rest⟩
theorem rowsAt_of_owns {w : World} {base e size n : Nat} {v : Value} {rows : List (List Value)} (hl : ∀ r ∈ rows, r.length = size) (hn : n = rows.length)
    (h : w.ownsRow base e size v n rows.flatten) : RowsAt w size v rows := by
  subst hn
  rcases h.2 with ⟨rfl, hn⟩ | ⟨g, cap, cur, rfl, hb, hg, hnc, hcm, hcs, htake⟩
  · have : rows = [] := List.length_eq_zero_iff.1 hn
    subst this
    exact RowsAt.nil w size
  · refine ⟨_, cap, rfl, hnc, hcm, fun _ => ⟨g, 0, rfl, fun i r hr j c hc => ?_⟩⟩
    have := flatten_get size rows hl i r hr j c hc
    rw [← htake] at this
    have hlt : i * size + j < rows.length * size := by
      have := (List.getElem?_eq_some_iff.1 this).1
      simp only [List.length_take] at this
      omega
    rw [List.getElem?_take, if_pos hlt] at this
    rw [cell_of_row w g _ cur e (0, 0) hg, Nat.zero_add]
    simpa using this
end Go.Proofs.YtplbdlgmjehckabGreatDoor

namespace Go.Proofs.YtplbdlgmjehckabGreatDoor
open Go.RowKit
set_option linter.unusedVariables false
set_option linter.unusedSimpArgs false
theorem set_top (w : World) (o o' : Obj) : { (w.alloc o) with heap := (w.alloc o).heap.setIfInBounds w.heap.size o' } = w.alloc o' := by
  have h : ((w.alloc o).heap.setIfInBounds w.heap.size o') = (w.alloc o').heap := by
    show ((w.heap.push o).setIfInBounds w.heap.size o') = w.heap.push o'
    apply Array.ext
    · simp
    · intro i h1 h2
      rw [Array.getElem_setIfInBounds]
      · by_cases hi : w.heap.size = i
        · subst hi; simp
        · have : i < w.heap.size := by simp at h2; omega
          rw [if_neg hi, Array.getElem_push_lt this, Array.getElem_push_lt this]
      · simpa using h1
  rw [h]; rfl
section
variable {P : Program} {mty kt et : TypeId} {kind : TypeDesc}
theorem run_made (w : World) (t : TypeId) : (Instr.makeMap t none).run P w = .ok (.map (some w.heap.size)) (w.alloc (.map #[] 0)) := rfl
theorem run_insert_top (hm : P.underlying mty = some (.map kt et)) (hk : P.underlying kt = some kind) (w : World) {es : Array MapEntry} {c : Nat} {k v : Value} (hik : MapKept.IsKey kind k) (hf : Instr.findNow kind k es.toList 0 = some none) :
    (Instr.mapUpdate mty (.map (some w.heap.size)) k v).run P (w.alloc (.map es c)) = .ok () (w.alloc (.map (es.push ⟨k, v, c⟩) (c + 1))) := by
  have hb : (w.alloc (.map es c)).heap[w.heap.size]? = some (.map es c) := newIn w _
  have hc : (Instr.checkKey false 10000 kt k).run P (w.alloc (.map es c)) = .ok () (w.alloc (.map es c)) := MapKept.run_checkKey hk hik false 9999
  have h1 : (Instr.mapUpdate mty (.map (some w.heap.size)) k v).run P (w.alloc (.map es c)) = .ok () { (w.alloc (.map es c)) with heap := (w.alloc (.map es c)).heap.setIfInBounds w.heap.size (.map (es.push ⟨k, v, c⟩) (c + 1)) } := by
    simp [Instr.mapUpdate, run_underlying hm, MapKept.run_getObj_map hb, hc, MapKept.run_findKey hk hf, MapKept.run_setObj_map _ hb, Result.andThen]
  rw [h1, set_top]
theorem run_look_hit (hm : P.underlying mty = some (.map kt et)) (hk : P.underlying kt = some kind) {w : World} {r : Nat} {es : Array MapEntry} {c i : Nat} {k v : Value} (hb : w.heap[r]? = some (.map es c)) (hik : MapKept.IsKey kind k) (hf : Instr.findNow kind k es.toList 0 = some (some (i, v))) (ok : Bool) :
    (Instr.lookup mty (.map (some r)) k ok).run P w = .ok (if ok then .tuple #[v, .bool true] else v) w := by
  have hc : (Instr.checkKey es.isEmpty 10000 kt k).run P w = .ok () w := MapKept.run_checkKey hk hik _ 9999
  simp [Instr.lookup, run_underlying hm, MapKept.run_getObj_map hb, hc, MapKept.run_findKey hk hf, Result.andThen]
theorem run_look_miss (hm : P.underlying mty = some (.map kt et)) (hk : P.underlying kt = some kind) {w : World} {r : Nat} {es : Array MapEntry} {c : Nat} {k z : Value} (hb : w.heap[r]? = some (.map es c)) (hik : MapKept.IsKey kind k) (hf : Instr.findNow kind k es.toList 0 = some none) (hz : (zeroValue et).run P w = .ok z w) (ok : Bool) :
    (Instr.lookup mty (.map (some r)) k ok).run P w = .ok (if ok then .tuple #[z, .bool false] else z) w := by
  have hc : (Instr.checkKey es.isEmpty 10000 kt k).run P w = .ok () w := MapKept.run_checkKey hk hik _ 9999
  simp [Instr.lookup, run_underlying hm, MapKept.run_getObj_map hb, hc, MapKept.run_findKey hk hf, hz, Result.andThen]
end
end Go.Proofs.YtplbdlgmjehckabGreatDoor

namespace Go.Proofs.YtplbdlgmjehckabGreatDoor
open Go.RowKit
set_option linter.unusedVariables false
set_option linter.unusedSimpArgs false
structure MapFn (d : TypeDesc) (w : World) (b : Nat) (f : Value → Option Value) : Prop where
  ex : ∃ es c, w.heap[b]? = some (.map es c) ∧ (∀ x ∈ es.toList, MapKept.IsKey d x.key) ∧ MapKept.Stamped es c ∧ ∀ k, MapKept.IsKey d k → ∀ v, f k = some v ↔ ∃ x ∈ es.toList, x.key = k ∧ x.val = v
theorem MapFn.made (d : TypeDesc) (w : World) : MapFn d (w.alloc (.map #[] 0)) w.heap.size (fun _ => none) :=
  ⟨⟨#[], 0, newIn w _, by simp, MapKept.stamped_empty 0, by simp⟩⟩
theorem MapFn.kept {d : TypeDesc} {S : Nat → Prop} {w w' : World} {b : Nat} {f : Value → Option Value} (h : MapFn d w b f) (hk : Kept S w w') (hs : ¬ S b) : MapFn d w' b f := by
  obtain ⟨es, c, h1, h2⟩ := h.ex
  exact ⟨⟨es, c, hk.heap hs h1, h2⟩⟩
theorem MapFn.lt {d : TypeDesc} {w : World} {b : Nat} {f : Value → Option Value} (h : MapFn d w b f) : b < w.heap.size := by
  obtain ⟨es, c, h1, _⟩ := h.ex
  exact ltIn h1
theorem kept_setHeap {w : World} {b : Nat} (o : Obj) : Kept (· = b) w { w with heap := w.heap.setIfInBounds b o } :=
  ⟨rfl, rfl, rfl, by simp, fun i hi hs => by
    show (w.heap.setIfInBounds b o)[i]? = w.heap[i]?
    rw [Array.getElem?_setIfInBounds_ne (fun e => hs e.symm)]⟩
section
variable {P : Program} {mty kt et : TypeId} {kind : TypeDesc}
theorem MapFn.update {w : World} {b : Nat} {f f' : Value → Option Value} (h : MapFn kind w b f) (hm : P.underlying mty = some (.map kt et)) (hd : P.underlying kt = some kind) {k v : Value} (hk : MapKept.IsKey kind k)
    (h1 : f' k = some v) (h2 : ∀ x, MapKept.IsKey kind x → x ≠ k → f' x = f x) :
    ∃ w', (Instr.mapUpdate mty (.map (some b)) k v).run P w = .ok () w' ∧ MapFn kind w' b f' ∧ Kept (· = b) w w' ∧ w'.heap.size = w.heap.size := by
  obtain ⟨es, c, hb, hks, hst, hf⟩ := h.ex
  rcases MapKept.findNow_spec hk es.toList 0 hks with ⟨g1, g2⟩ | ⟨j, e, g1, g2, g3⟩
  · refine ⟨{ w with heap := w.heap.setIfInBounds b (.map (es.push ⟨k, v, c⟩) (c + 1)) }, ?_, ⟨⟨_, _, (MapKept.heap_set hb).1, ?_, MapKept.stamped_push hst g2, ?_⟩⟩, kept_setHeap _, by simp⟩
    · simp [Instr.mapUpdate, run_underlying hm, MapKept.run_getObj_map hb, MapKept.run_checkKey hd hk, MapKept.run_findKey hd g1, MapKept.run_setObj_map _ hb, Result.andThen]
    · intro x hx
      simp only [Array.toList_push, List.mem_append, List.mem_singleton] at hx
      rcases hx with hx | rfl
      · exact hks x hx
      · exact hk
    · intro x hx y
      simp only [Array.toList_push, List.mem_append, List.mem_singleton]
      by_cases hxk : x = k
      · subst hxk
        rw [h1]
        constructor
        · intro e; cases e; exact ⟨_, .inr rfl, rfl, rfl⟩
        · rintro ⟨z, hz | rfl, hzk, rfl⟩
          · exact absurd hzk (g2 z hz)
          · rfl
      · rw [h2 x hx hxk, hf x hx y]
        constructor
        · rintro ⟨z, hz, e⟩; exact ⟨z, .inl hz, e⟩
        · rintro ⟨z, hz | rfl, hzk, e⟩
          · exact ⟨z, hz, hzk, e⟩
          · exact absurd hzk.symm hxk
  · have hj : es[j]? = some e := by simpa using g2
    have hkey : ∀ e', es[j]? = some e' → ({ e' with key := k, val := v } : MapEntry).key = e'.key := fun e' he' => by rw [hj] at he'; cases he'; exact g3.symm
    refine ⟨{ w with heap := w.heap.setIfInBounds b (.map (es.modify j fun e => { e with key := k, val := v }) c) }, ?_, ⟨⟨_, _, (MapKept.heap_set hb).1, MapKept.isKey_modify hks _ _ hkey, MapKept.stamped_modify hst _ _ (fun _ _ => rfl) (fun e' _ he' => hkey e' he'), ?_⟩⟩, kept_setHeap _, by simp⟩
    · simp [Instr.mapUpdate, run_underlying hm, MapKept.run_getObj_map hb, MapKept.run_checkKey hd hk, MapKept.run_findKey hd g1, hj, g3, MapKept.run_keyThatStays hk, MapKept.run_setObj_map _ hb, Result.andThen]
    · have huniq : ∀ (i : Nat) (x : MapEntry), es[i]? = some x → x.key = k → i = j := by
        intro i x hi hxk
        have hnd := hst.2.2
        have hi' : (es.toList.map (·.key))[i]? = some k := by rw [List.getElem?_map]; simp [hi, hxk]
        have hj' : (es.toList.map (·.key))[j]? = some k := by rw [List.getElem?_map]; simp [hj, g3]
        exact (List.getElem?_inj (List.getElem?_eq_some_iff.1 hi').1 hnd).1 (hi'.trans hj'.symm)
      have hmem : ∀ z : MapEntry, z ∈ (es.modify j fun e => { e with key := k, val := v }).toList ↔ (∃ i, i ≠ j ∧ es[i]? = some z) ∨ z = { e with key := k, val := v } := by
        intro z
        rw [List.mem_iff_getElem?]
        constructor
        · rintro ⟨i, hi⟩
          rw [Array.getElem?_toList, Array.getElem?_modify] at hi
          split at hi
          · rename_i hij
            subst hij
            rw [hj] at hi
            right; simpa using hi.symm
          · rename_i hij
            exact .inl ⟨i, fun e => hij e.symm, hi⟩
        · rintro (⟨i, hij, hi⟩ | rfl)
          · exact ⟨i, by rw [Array.getElem?_toList, Array.getElem?_modify, if_neg (fun e => hij e.symm)]; exact hi⟩
          · exact ⟨j, by rw [Array.getElem?_toList, Array.getElem?_modify, if_pos rfl, hj]; rfl⟩
      intro x hx y
      by_cases hxk : x = k
      · subst hxk
        rw [h1]
        constructor
        · intro e'; cases e'; exact ⟨_, (hmem _).2 (.inr rfl), rfl, rfl⟩
        · rintro ⟨z, hz, hzk, rfl⟩
          rcases (hmem z).1 hz with ⟨i, hij, hi⟩ | rfl
          · exact absurd (huniq i z hi hzk) hij
          · rfl
      · rw [h2 x hx hxk, hf x hx y]
        constructor
        · rintro ⟨z, hz, hzk, e'⟩
          obtain ⟨i, hi⟩ := List.mem_iff_getElem?.1 hz
          have hi : es[i]? = some z := by simpa using hi
          refine ⟨z, (hmem z).2 (.inl ⟨i, fun hij => hxk ?_, hi⟩), hzk, e'⟩
          rw [hij, hj] at hi; cases hi
          rw [← hzk, g3]
        · rintro ⟨z, hz, hzk, e'⟩
          rcases (hmem z).1 hz with ⟨i, hij, hi⟩ | rfl
          · exact ⟨z, List.mem_iff_getElem?.2 ⟨i, by simpa using hi⟩, hzk, e'⟩
          · exact absurd hzk.symm hxk
theorem MapFn.hit {w : World} {b : Nat} {f : Value → Option Value} (h : MapFn kind w b f) (hm : P.underlying mty = some (.map kt et)) (hd : P.underlying kt = some kind) {k v : Value} (hk : MapKept.IsKey kind k) (hf : f k = some v) (ok : Bool) :
    (Instr.lookup mty (.map (some b)) k ok).run P w = .ok (if ok then .tuple #[v, .bool true] else v) w := by
  obtain ⟨es, c, hb, hks, hst, hff⟩ := h.ex
  rcases MapKept.findNow_spec hk es.toList 0 hks with ⟨g1, g2⟩ | ⟨j, e, g1, g2, g3⟩
  · obtain ⟨x, hx, hxk, _⟩ := (hff k hk v).1 hf
    exact absurd hxk (g2 x hx)
  · have := (hff k hk e.val).2 ⟨e, List.mem_iff_getElem?.2 ⟨j, g2⟩, g3, rfl⟩
    rw [hf] at this
    cases this
    exact run_look_hit hm hd hb hk g1 ok
theorem MapFn.miss {w : World} {b : Nat} {f : Value → Option Value} (h : MapFn kind w b f) (hm : P.underlying mty = some (.map kt et)) (hd : P.underlying kt = some kind) {k z : Value} (hk : MapKept.IsKey kind k) (hf : f k = none) (hz : (zeroValue et).run P w = .ok z w) (ok : Bool) :
    (Instr.lookup mty (.map (some b)) k ok).run P w = .ok (if ok then .tuple #[z, .bool false] else z) w := by
  obtain ⟨es, c, hb, hks, hst, hff⟩ := h.ex
  rcases MapKept.findNow_spec hk es.toList 0 hks with ⟨g1, g2⟩ | ⟨j, e, g1, g2, g3⟩
  · exact run_look_miss hm hd hb hk g1 hz ok
  · have := (hff k hk e.val).2 ⟨e, List.mem_iff_getElem?.2 ⟨j, g2⟩, g3, rfl⟩
    rw [hf] at this; cases this
variable {ops : Array Oper} {o : Oper} {a : Act} {K : Act → World → Prop} {Q : Exit → Act → World → Prop} {E : Prop}
theorem upon_made {w : World} (t : TypeId) (d : TypeDesc) (h : ∀ b w', b = w.heap.size → w'.heap.size = w.heap.size + 1 → MapFn d w' b (fun _ => none) → Kept (fun _ => False) w w' → K (a.put o.dst (.map (some b))) w') :
    Oper.upon P o a K Q ((Sem.run P (Instr.makeMap t none) w).andThen fun v w' => .ok (.value v) w') := by
  rw [run_made]
  exact h _ _ rfl (by simp) (MapFn.made d w) ((Kept.refl _ w).alloc _)
theorem upon_insert {w : World} {b : Nat} {f : Value → Option Value} (hm : P.underlying mty = some (.map kt et)) (hd : P.underlying kt = some kind) (f' : Value → Option Value) (hM : MapFn kind w b f) {kv xv : Value} (hk : MapKept.IsKey kind kv) (h1 : f' kv = some xv) (h2 : ∀ y, MapKept.IsKey kind y → y ≠ kv → f' y = f y)
    (h : ∀ w', MapFn kind w' b f' → Kept (· = b) w w' → w'.heap.size = w.heap.size → K (a.put o.dst undef) w') :
    Oper.upon P o a K Q ((Sem.run P (Instr.mapUpdate mty (.map (some b)) kv xv) w).andThen fun _ w' => .ok .skip w') := by
  obtain ⟨w', hr, hM', hk', hs'⟩ := hM.update hm hd hk h1 h2
  rw [hr]
  exact h w' hM' hk' hs'
theorem upon_look {w : World} {b : Nat} {kv : Value} {ok : Bool} (v : Value) (hr : (Instr.lookup mty (.map (some b)) kv ok).run P w = .ok v w) (h : K (a.put o.dst v) w) :
    Oper.upon P o a K Q ((Sem.run P (Instr.lookup mty (.map (some b)) kv ok) w).andThen fun v w' => .ok (.value v) w') := by
  rw [hr]
  exact h
end
end Go.Proofs.YtplbdlgmjehckabGreatDoor

namespace Go.Proofs.YtplbdlgmjehckabGreatDoor
open Go.RowKit
set_option linter.unusedVariables false
set_option linter.unusedSimpArgs false
def testCells (t : PTest) : List Value := [.int .i64 t.kind, .string (str t.name), .string (str t.val)]
def TestsIn (w : World) (X : Nat → Prop) (v : Value) (ts : List PTest) : Prop := RowsAt w 3 v (ts.map testCells) ∧ ∀ k, v.ownBlock = some k → ¬ X k ∧ k < w.heap.size
theorem TestsIn.kept {w w' : World} {X X' S : Nat → Prop} {v : Value} {ts : List PTest} (h : TestsIn w X v ts) (hk : Kept S w w') (hS : ∀ k, k < w.heap.size → S k → X k) (hX : ∀ k, k < w.heap.size → X' k → X k) : TestsIn w' X' v ts :=
  ⟨h.1.kept hk (fun k hk' hs => (h.2 k hk').1 (hS k (h.2 k hk').2 hs)), fun k hk' => ⟨fun hx => (h.2 k hk').1 (hX k (h.2 k hk').2 hx), Nat.lt_of_lt_of_le (h.2 k hk').2 hk.size⟩⟩
theorem zipRows {α : Type} {f : α → Value → List Value} {size : Nat} (hf : ∀ a v, (f a v).length = size) {xs : List α} {vs : List Value} : ∀ r ∈ List.zipWith f xs vs, r.length = size := by
  intro r hr
  obtain ⟨i, hi, rfl⟩ := List.mem_iff_getElem.1 hr
  simp [hf]
def NestIn {α : Type} (f : α → Value → List Value) (size : Nat) (Q : World → (Nat → Prop) → Value → α → Prop) (w : World) (X : Nat → Prop) (v : Value) (xs : List α) : Prop :=
  ∃ vs : List Value, vs.length = xs.length ∧ RowsAt w size v (List.zipWith f xs vs) ∧ (∀ k, v.ownBlock = some k → ¬ X k ∧ k < w.heap.size) ∧ ∀ (i : Nat) (x : α) (u : Value), xs[i]? = some x → vs[i]? = some u → Q w X u x
def Lasts {α : Type} (Q : World → (Nat → Prop) → Value → α → Prop) : Prop :=
  ∀ (w w' : World) (X X' S : Nat → Prop) (v : Value) (x : α), Q w X v x → Kept S w w' → (∀ k, k < w.heap.size → S k → X k) → (∀ k, k < w.heap.size → X' k → X k) → Q w' X' v x
theorem tests_lasts : Lasts TestsIn := fun _ _ _ _ _ _ _ h hk hS hX => h.kept hk hS hX
theorem nest_lasts {α : Type} {f : α → Value → List Value} {size : Nat} {Q : World → (Nat → Prop) → Value → α → Prop} (hQ : Lasts Q) : Lasts (NestIn f size Q) := by
  intro w w' X X' S v xs ⟨vs, h1, h2, h3, h4⟩ hk hS hX
  exact ⟨vs, h1, h2.kept hk (fun k hk' hs => (h3 k hk').1 (hS k (h3 k hk').2 hs)), fun k hk' => ⟨fun hx => (h3 k hk').1 (hX k (h3 k hk').2 hx), Nat.lt_of_lt_of_le (h3 k hk').2 hk.size⟩,
    fun i x u hx hu => hQ _ _ _ _ _ _ _ (h4 i x u hx hu) hk hS hX⟩
structure NestOwn {α : Type} (f : α → Value → List Value) (size e : Nat) (Q : World → (Nat → Prop) → Value → α → Prop) (w : World) (base : Nat) (v : Value) (xs : List α) (vs : List Value) : Prop where
  len : vs.length = xs.length
  own : w.ownsRow base e size v xs.length (List.zipWith f xs vs).flatten
  nest : ∀ (i : Nat) (x : α) (u : Value), xs[i]? = some x → vs[i]? = some u → Q w (fun k => k < base ∨ v.ownBlock = some k) u x
section
variable {α : Type} {f : α → Value → List Value} {size e : Nat} {Q : World → (Nat → Prop) → Value → α → Prop} {w w' : World} {base b : Nat} {v v' : Value} {xs : List α} {vs : List Value}
theorem NestOwn.kept (h : NestOwn f size e Q w base v xs vs) (hQ : Lasts Q) (hb : b < base) (hk : Kept (· = b) w w') : NestOwn f size e Q w' base v xs vs :=
  ⟨h.len, owns_kept h.own hk (fun k hk => by have := (h.own.lt k hk).1; omega), fun i x u hx hu => hQ _ _ _ _ _ _ _ (h.nest i x u hx hu) hk (fun k _ hs => .inl (by have : k = b := hs; omega)) (fun k _ hx => hx)⟩
theorem NestOwn.alloc (h : NestOwn f size e Q w base v xs vs) (hQ : Lasts Q) (o : Obj) : NestOwn f size e Q (w.alloc o) base v xs vs :=
  ⟨h.len, h.own.alloc _, fun i x u hx hu => hQ _ _ _ _ (fun _ => False) _ _ (h.nest i x u hx hu) ((Kept.refl _ _).alloc _) (fun k _ hs => hs.elim) (fun k _ hx => hx)⟩
theorem NestOwn.other (h : NestOwn f size e Q w base v xs vs) (hQ : ∀ (u : Value) (x : α), u ∈ vs → Q w (fun k => k < base ∨ v.ownBlock = some k) u x → Q w' (fun k => k < base ∨ v.ownBlock = some k) u x) {S : Nat → Prop} (hk : Kept S w w') (hs : ∀ k, v.ownBlock = some k → ¬ S k) : NestOwn f size e Q w' base v xs vs :=
  ⟨h.len, owns_kept h.own hk hs, fun i x u hx hu => hQ u x (List.mem_of_getElem? hu) (h.nest i x u hx hu)⟩
theorem NestOwn.nil (w : World) (base : Nat) : NestOwn f size e Q w base (.slice none 0 0) [] [] := ⟨rfl, World.ownsRow_nil _ _ _ _, fun i x u hx => by simp at hx⟩
theorem NestOwn.form (h : NestOwn f size e Q w base v xs vs) : ∃ vo vc, v = .slice vo xs.length vc := by
  rcases h.own.2 with ⟨h, hn⟩ | ⟨g, cap, cur, h, _⟩
  · exact ⟨none, 0, by rw [h, hn]⟩
  · exact ⟨_, cap, h⟩
theorem NestOwn.push {gg cap : Nat} {x : α} {u : Value} {o : Obj} (h : NestOwn f size e Q w base v xs vs) (hQ : Lasts Q) (hu : Q w (fun k => k < base ∨ v.ownBlock = some k) u x)
    (hown : w'.ownsRow base e size (.slice (some ⟨gg, 0, none⟩) (xs.length + 1) cap) (xs.length + 1) ((List.zipWith f xs vs).flatten ++ f x u)) (hg : (w.alloc o).grownBy w' v.ownBlock) (hat : v.ownBlock = some gg ∨ w.heap.size ≤ gg) :
    NestOwn f size e Q w' base (.slice (some ⟨gg, 0, none⟩) (xs.length + 1) cap) (xs ++ [x]) (vs ++ [u]) := by
  have hk : Kept (fun k => v.ownBlock = some k) w w' := ((Kept.refl _ w).alloc o).grown hg (fun k hk => .inl hk)
  have new : ∀ {y : α} {z : Value}, Q w (fun k => k < base ∨ v.ownBlock = some k) z y → Q w' (fun k => k < base ∨ (Value.slice (some ⟨gg, 0, none⟩) (xs.length + 1) cap).ownBlock = some k) z y := fun hq =>
    hQ _ _ _ _ _ _ _ hq hk (fun k _ hs => .inr hs) (fun k hlt hx => by
      rcases hx with hx | hx
      · exact .inl hx
      · simp only [Value.ownBlock, Option.some.injEq] at hx
        subst hx
        rcases hat with h1 | h1
        · exact .inr h1
        · omega)
  refine ⟨by simp [h.len], ?_, fun i y z hy hz => ?_⟩
  · rw [List.zipWith_append (by rw [h.len])]
    simpa using hown
  · by_cases hi : i < xs.length
    · rw [List.getElem?_append_left hi] at hy
      rw [List.getElem?_append_left (by rw [h.len]; exact hi)] at hz
      exact new (h.nest i y z hy hz)
    · have hi2 := (List.getElem?_eq_some_iff.1 hy).1
      simp at hi2
      have : i = xs.length := by omega
      subst this
      simp at hy
      rw [← h.len] at hz
      simp at hz
      subst hy; subst hz
      exact new hu
theorem NestOwn.done (h : NestOwn f size e Q w base v xs vs) (hf : ∀ a v, (f a v).length = size) (hQ : Lasts Q) : NestIn f size Q w (fun k => k < base) v xs :=
  ⟨vs, h.len, rowsAt_of_owns (zipRows hf) (by simp [h.len]) h.own, fun k hk => ⟨fun hx => by have := (h.own.lt k hk).1; omega, (h.own.lt k hk).2⟩,
    fun i x u hx hu => hQ _ _ _ _ (fun _ => False) _ _ (h.nest i x u hx hu) (Kept.refl _ _) (fun k _ hs => hs.elim) (fun k _ hx => .inl hx)⟩
end
def partCells (p : PPart) (v : Value) : List Value := [.int .i64 p.join, v]
def PartsIn (w : World) (X : Nat → Prop) (v : Value) (ps : List PPart) : Prop := NestIn partCells 2 (fun w X u (p : PPart) => TestsIn w X u p.tests) w X v ps
def selCells (s : PSel) (v : Value) : List Value := [v]
def SelsIn (w : World) (X : Nat → Prop) (v : Value) (ss : List PSel) : Prop := NestIn selCells 1 PartsIn w X v ss
def declCells (d : PDecl) : List Value := [.string (str d.name), .string (str d.val), .bool d.strong]
def DeclsIn (w : World) (X : Nat → Prop) (v : Value) (ds : List PDecl) : Prop := RowsAt w 3 v (ds.map declCells) ∧ ∀ k, v.ownBlock = some k → ¬ X k ∧ k < w.heap.size
theorem decls_lasts : Lasts DeclsIn := fun w w' X X' S v ds h hk hS hX =>
  ⟨h.1.kept hk (fun k hk' hs => (h.2 k hk').1 (hS k (h.2 k hk').2 hs)), fun k hk' => ⟨fun hx => (h.2 k hk').1 (hX k (h.2 k hk').2 hx), Nat.lt_of_lt_of_le (h.2 k hk').2 hk.size⟩⟩
def vFst : Value → Value
  | .tuple a => a.getD 0 (.bool false)
  | v => v
def vSnd : Value → Value
  | .tuple a => a.getD 1 (.bool false)
  | v => v
def ruleCells (r : PRule) (u : Value) : List Value := [.string (str r.media), vFst u, vSnd u, .int .i64 r.lo, .int .i64 r.hi]
def RuleIn (w : World) (X : Nat → Prop) (u : Value) (r : PRule) : Prop := ∃ sv dv, u = .tuple #[sv, dv] ∧ SelsIn w X sv r.sels ∧ DeclsIn w X dv r.decls
def RulesIn (w : World) (X : Nat → Prop) (v : Value) (rs : List PRule) : Prop := NestIn ruleCells 5 RuleIn w X v rs
theorem decl_rows {ds : List PDecl} : ∀ r ∈ ds.map declCells, r.length = 3 := by
  intro r hr
  obtain ⟨a, _, rfl⟩ := List.mem_map.1 hr
  rfl
theorem info_decl : (Tryz.prog.info? 89).map (fun i => (i.zero, i.size, i.bytes)) = some (some (.agg #[.string ⟨#[]⟩, .string ⟨#[]⟩, .bool false]), 3, 40) := by kernel_rfl
theorem info_sel : (Tryz.prog.info? 146).map (fun i => (i.zero, i.size, i.bytes)) = some (some (.slice none 0 0), 1, 24) := by kernel_rfl
theorem info_str : (Tryz.prog.info? 9).map (fun i => (i.zero, i.size, i.bytes)) = some (some (.string ⟨#[]⟩), 1, 16) := by kernel_rfl
theorem RowsAt.at {w : World} {size : Nat} {a : Option Addr} {n cap : Nat} {rows : List (List Value)} (h : RowsAt w size (.slice a n cap) rows) {k : Nat} {r : List Value} (hx : rows[k]? = some r) :
    ∃ b off, a = some ⟨b, off, none⟩ ∧ ∀ j c, r[j]? = some c → w.cell? ⟨b, off + k * size + j, none⟩ = some c := by
  obtain ⟨a', cap', hv, h1, h2, h3⟩ := h
  simp only [Value.slice.injEq] at hv
  obtain ⟨rfl, _, _⟩ := hv
  obtain ⟨b, off, ha, h4⟩ := h3 (by intro hn; subst hn; simp at hx)
  exact ⟨b, off, ha, h4 k r hx⟩
theorem DeclsIn.form {w : World} {X : Nat → Prop} {v : Value} {ds : List PDecl} (h : DeclsIn w X v ds) : ∃ a cap, v = .slice a ds.length cap ∧ ds.length ≤ cap ∧ cap ≤ maxLen := by
  obtain ⟨a, cap, e, h1, h2, _⟩ := h.1
  exact ⟨a, cap, by rw [e, List.length_map], by simpa using h1, h2⟩
theorem DeclsIn.at {w : World} {X : Nat → Prop} {a : Option Addr} {n cap : Nat} {ds : List PDecl} (h : DeclsIn w X (.slice a n cap) ds) {k : Nat} {x : PDecl} (hx : ds[k]? = some x) :
    ∃ b off, a = some ⟨b, off, none⟩ ∧ w.cell? ⟨b, off + k * 3, none⟩ = some (.string (str x.name)) ∧ w.cell? ⟨b, off + k * 3 + 1, none⟩ = some (.string (str x.val)) ∧ w.cell? ⟨b, off + k * 3 + 2, none⟩ = some (.bool x.strong) := by
  obtain ⟨b, off, ha, h4⟩ := RowsAt.at h.1 (k := k) (r := declCells x) (by simp [hx])
  exact ⟨b, off, ha, h4 0 _ rfl, h4 1 _ rfl, h4 2 _ rfl⟩
theorem DeclsIn.quiet {w w' : World} {X : Nat → Prop} {v : Value} {ds : List PDecl} (h : DeclsIn w X v ds) (hq : Qt w w') : DeclsIn w' X v ds :=
  decls_lasts _ _ _ _ _ _ _ h (hq.kept (fun _ => False)) (fun _ _ h => h.elim) (fun _ _ h => h)
theorem TestsIn.form {w : World} {X : Nat → Prop} {v : Value} {ds : List PTest} (h : TestsIn w X v ds) : ∃ a cap, v = .slice a ds.length cap ∧ ds.length ≤ cap ∧ cap ≤ maxLen := by
  obtain ⟨a, cap, e, h1, h2, _⟩ := h.1
  exact ⟨a, cap, by rw [e, List.length_map], by simpa using h1, h2⟩
theorem TestsIn.at {w : World} {X : Nat → Prop} {a : Option Addr} {n cap : Nat} {ds : List PTest} (h : TestsIn w X (.slice a n cap) ds) {k : Nat} {x : PTest} (hx : ds[k]? = some x) :
    ∃ b off, a = some ⟨b, off, none⟩ ∧ ∀ j c, (testCells x)[j]? = some c → w.cell? ⟨b, off + k * 3 + j, none⟩ = some c :=
  RowsAt.at h.1 (k := k) (r := testCells x) (by simp [hx])
theorem TestsIn.quiet {w w' : World} {X : Nat → Prop} {v : Value} {ds : List PTest} (h : TestsIn w X v ds) (hq : Qt w w') : TestsIn w' X v ds :=
  tests_lasts _ _ _ _ _ _ _ h (hq.kept (fun _ => False)) (fun _ _ h => h.elim) (fun _ _ h => h)
section
variable {α : Type} {f : α → Value → List Value} {size : Nat} {Q : World → (Nat → Prop) → Value → α → Prop} {w w' : World} {X : Nat → Prop} {v : Value} {xs : List α}
theorem NestIn.form (h : NestIn f size Q w X v xs) : ∃ a cap, v = .slice a xs.length cap ∧ xs.length ≤ cap ∧ cap ≤ maxLen := by
  obtain ⟨vs, h0, ⟨a, cap, e, h1, h2, _⟩, _⟩ := h
  exact ⟨a, cap, by rw [e]; simp [h0], by simpa [h0] using h1, h2⟩
theorem NestIn.at {a : Option Addr} {n cap : Nat} (h : NestIn f size Q w X (.slice a n cap) xs) {k : Nat} {x : α} (hx : xs[k]? = some x) :
    ∃ b off u, a = some ⟨b, off, none⟩ ∧ (∀ j c, (f x u)[j]? = some c → w.cell? ⟨b, off + k * size + j, none⟩ = some c) ∧ Q w X u x := by
  obtain ⟨vs, h0, h1, _, h4⟩ := h
  have hk := (List.getElem?_eq_some_iff.1 hx).1
  have hu : vs[k]? = some (vs[k]'(by omega)) := List.getElem?_eq_getElem _
  obtain ⟨b, off, ha, h5⟩ := RowsAt.at h1 (k := k) (r := f x (vs[k]'(by omega))) (by simp [List.getElem?_zipWith, hx, hu])
  exact ⟨b, off, _, ha, h5, h4 k x _ hx hu⟩
theorem NestIn.quiet (hQ : Lasts Q) (h : NestIn f size Q w X v xs) (hq : Qt w w') : NestIn f size Q w' X v xs :=
  nest_lasts hQ _ _ _ _ _ _ _ h (hq.kept (fun _ => False)) (fun _ _ h => h.elim) (fun _ _ h => h)
end
end Go.Proofs.YtplbdlgmjehckabGreatDoor

namespace Go.Proofs.YtplbdlgmjehckabGreatDoor
open Go.RowKit
set_option linter.unusedVariables false
set_option linter.unusedSimpArgs false
def attrCells (a : PAttr) : List Value := [.string (str a.name), .string (str a.val), .int .i64 a.lo, .int .i64 a.hi]
def AttrsAt (w : World) (v : Value) (al : List PAttr) : Prop := RowsAt w 4 v (al.map attrCells)
theorem AttrsAt.form {w : World} {v : Value} {al : List PAttr} (h : AttrsAt w v al) : ∃ a cap, v = .slice a al.length cap ∧ al.length ≤ cap ∧ cap ≤ maxLen := by
  obtain ⟨a, cap, hv, h1, h2, h3⟩ := h
  simp only [List.length_map] at hv h1
  exact ⟨a, cap, hv, h1, h2⟩
theorem AttrsAt.at {w : World} {a : Option Addr} {n cap : Nat} {al : List PAttr} (h : AttrsAt w (.slice a n cap) al) {k : Nat} {x : PAttr} (hx : al[k]? = some x) :
    ∃ b off, a = some ⟨b, off, none⟩ ∧ w.cell? ⟨b, off + k * 4, none⟩ = some (.string (str x.name)) ∧ w.cell? ⟨b, off + k * 4 + 1, none⟩ = some (.string (str x.val)) ∧
      w.cell? ⟨b, off + k * 4 + 2, none⟩ = some (.int .i64 x.lo) ∧ w.cell? ⟨b, off + k * 4 + 3, none⟩ = some (.int .i64 x.hi) := by
  obtain ⟨a', cap', hv, h1, h2, h3⟩ := h
  simp only [Value.slice.injEq] at hv
  obtain ⟨rfl, _, _⟩ := hv
  obtain ⟨b, off, ha, h4⟩ := h3 (by intro hn; rw [List.map_eq_nil_iff] at hn; subst hn; simp at hx)
  have := h4 k (attrCells x) (by simp [hx])
  exact ⟨b, off, ha, this 0 _ rfl, this 1 _ rfl, this 2 _ rfl, this 3 _ rfl⟩
def nodeCells (n : PNode) (av : Value) : List Value := [.string (str n.name), .int .i64 n.parent, av, .int .i64 n.nameEnd, .int .i64 n.inF, .int .i64 n.inT]
def NodesAt (w : World) (v : Value) (ns : List PNode) : Prop :=
  ∃ avs : List Value, avs.length = ns.length ∧ RowsAt w 6 v (List.zipWith nodeCells ns avs) ∧ ∀ (i : Nat) (n : PNode) (av : Value), ns[i]? = some n → avs[i]? = some av → AttrsAt w av n.attrs
theorem NodesAt.kept {w w' : World} {v : Value} {ns : List PNode} (h : NodesAt w v ns) (hb : Below w.heap.size w w') : NodesAt w' v ns := by
  obtain ⟨avs, h1, h2, h3⟩ := h
  exact ⟨avs, h1, h2.below hb, fun i n av hn ha => (h3 i n av hn ha).below hb⟩
theorem NodesAt.form {w : World} {v : Value} {ns : List PNode} (h : NodesAt w v ns) : ∃ a cap, v = .slice a ns.length cap ∧ ns.length ≤ cap ∧ cap ≤ maxLen := by
  obtain ⟨avs, h1, ⟨a, cap, hv, h2, h3, _⟩, _⟩ := h
  have e : (List.zipWith nodeCells ns avs).length = ns.length := by simp [h1]
  rw [e] at hv h2
  exact ⟨a, cap, hv, h2, h3⟩
theorem NodesAt.at {w : World} {a : Option Addr} {n cap : Nat} {ns : List PNode} (h : NodesAt w (.slice a n cap) ns) {k : Nat} {x : PNode} (hx : ns[k]? = some x) :
    ∃ b off av, a = some ⟨b, off, none⟩ ∧ w.cell? ⟨b, off + k * 6, none⟩ = some (.string (str x.name)) ∧ w.cell? ⟨b, off + k * 6 + 1, none⟩ = some (.int .i64 x.parent) ∧
      w.cell? ⟨b, off + k * 6 + 2, none⟩ = some av ∧ w.cell? ⟨b, off + k * 6 + 3, none⟩ = some (.int .i64 x.nameEnd) ∧ w.cell? ⟨b, off + k * 6 + 4, none⟩ = some (.int .i64 x.inF) ∧
      w.cell? ⟨b, off + k * 6 + 5, none⟩ = some (.int .i64 x.inT) ∧ AttrsAt w av x.attrs := by
  obtain ⟨avs, h1, ⟨a', cap', hv, h2, h3, h4⟩, h5⟩ := h
  simp only [Value.slice.injEq] at hv
  obtain ⟨rfl, _, _⟩ := hv
  have hk := (List.getElem?_eq_some_iff.1 hx).1
  have ha : avs[k]? = some (avs[k]'(by omega)) := List.getElem?_eq_getElem _
  have hz : (List.zipWith nodeCells ns avs)[k]? = some (nodeCells x (avs[k]'(by omega))) := by simp [List.getElem?_zipWith, hx, ha]
  obtain ⟨b, off, rfl, h6⟩ := h4 (by intro hn; rw [hn] at hz; simp at hz)
  have := h6 k _ hz
  exact ⟨b, off, _, rfl, this 0 _ rfl, this 1 _ rfl, this 2 _ rfl, this 3 _ rfl, this 4 _ rfl, this 5 _ rfl, h5 k x _ hx ha⟩
theorem NodesAt.quiet {w w' : World} {v : Value} {ns : List PNode} (h : NodesAt w v ns) (hq : Qt w w') : NodesAt w' v ns := h.kept ((hq.kept (fun _ => False)).below)
end Go.Proofs.YtplbdlgmjehckabGreatDoor

namespace Go.Proofs.YtplbdlgmjehckabGreatDoor
open Go.RowKit
set_option linter.unusedVariables false
set_option linter.unusedSimpArgs false
def NestAt {α : Type} (f : α → Value → List Value) (size : Nat) (Q : World → Value → α → Prop) (w : World) (v : Value) (xs : List α) : Prop :=
  ∃ vs : List Value, vs.length = xs.length ∧ RowsAt w size v (List.zipWith f xs vs) ∧ ∀ (i : Nat) (x : α) (u : Value), xs[i]? = some x → vs[i]? = some u → Q w u x
def Firm {α : Type} (Q : World → Value → α → Prop) : Prop := ∀ (w w' : World) (u : Value) (x : α), Q w u x → Below w.heap.size w w' → Q w' u x
theorem nest_firm {α : Type} {f : α → Value → List Value} {size : Nat} {Q : World → Value → α → Prop} (hQ : Firm Q) : Firm (NestAt f size Q) := by
  intro w w' v xs ⟨vs, h1, h2, h3⟩ hb
  exact ⟨vs, h1, h2.below hb, fun i x u hx hu => hQ _ _ _ _ (h3 i x u hx hu) hb⟩
theorem Firm.quiet {α : Type} {Q : World → Value → α → Prop} (hQ : Firm Q) {w w' : World} {u : Value} {x : α} (h : Q w u x) (hq : Qt w w') : Q w' u x := hQ _ _ _ _ h ((hq.kept (fun _ => False)).below)
theorem Firm.kept {α : Type} {Q : World → Value → α → Prop} (hQ : Firm Q) {w w' : World} {u : Value} {x : α} (h : Q w u x) (hq : Kept (fun _ => False) w w') : Q w' u x := hQ _ _ _ _ h hq.below
section
variable {α : Type} {f : α → Value → List Value} {size : Nat} {Q : World → Value → α → Prop} {w w' : World} {v : Value} {xs : List α}
theorem NestAt.form (h : NestAt f size Q w v xs) : ∃ a cap, v = .slice a xs.length cap ∧ xs.length ≤ cap ∧ cap ≤ maxLen := by
  obtain ⟨vs, h0, ⟨a, cap, e, h1, h2, _⟩, _⟩ := h
  exact ⟨a, cap, by rw [e]; simp [h0], by simpa [h0] using h1, h2⟩
theorem NestAt.at {a : Option Addr} {n cap : Nat} (h : NestAt f size Q w (.slice a n cap) xs) {k : Nat} {x : α} (hx : xs[k]? = some x) :
    ∃ b off u, a = some ⟨b, off, none⟩ ∧ (∀ j c, (f x u)[j]? = some c → w.cell? ⟨b, off + k * size + j, none⟩ = some c) ∧ Q w u x := by
  obtain ⟨vs, h0, h1, h4⟩ := h
  have hk := (List.getElem?_eq_some_iff.1 hx).1
  have hu : vs[k]? = some (vs[k]'(by omega)) := List.getElem?_eq_getElem _
  obtain ⟨b, off, ha, h5⟩ := RowsAt.at h1 (k := k) (r := f x (vs[k]'(by omega))) (by simp [List.getElem?_zipWith, hx, hu])
  exact ⟨b, off, _, ha, h5, h4 k x _ hx hu⟩
end
def DeclsAt (w : World) (v : Value) (ds : List PDecl) : Prop := RowsAt w 3 v (ds.map declCells)
def TestsAt (w : World) (v : Value) (ts : List PTest) : Prop := RowsAt w 3 v (ts.map testCells)
def PartsAt (w : World) (v : Value) (ps : List PPart) : Prop := NestAt partCells 2 (fun w u (p : PPart) => TestsAt w u p.tests) w v ps
def SelsAt (w : World) (v : Value) (ss : List PSel) : Prop := NestAt selCells 1 PartsAt w v ss
def RuleAt (w : World) (u : Value) (r : PRule) : Prop := ∃ sv dv, u = .tuple #[sv, dv] ∧ SelsAt w sv r.sels ∧ DeclsAt w dv r.decls
def RulesAt (w : World) (v : Value) (rs : List PRule) : Prop := NestAt ruleCells 5 RuleAt w v rs
def StrsAt (w : World) (v : Value) (ss : List B) : Prop := RowsAt w 1 v (ss.map fun x => [Value.string (str x)])
theorem decls_firm : Firm DeclsAt := fun _ _ _ _ h hb => RowsAt.below h hb
theorem tests_firm : Firm TestsAt := fun _ _ _ _ h hb => RowsAt.below h hb
theorem strs_firm : Firm StrsAt := fun _ _ _ _ h hb => RowsAt.below h hb
theorem part_firm : Firm (fun w u (p : PPart) => TestsAt w u p.tests) := fun _ _ _ _ h hb => RowsAt.below h hb
theorem parts_firm : Firm PartsAt := nest_firm part_firm
theorem sels_firm : Firm SelsAt := nest_firm parts_firm
theorem rule_firm : Firm RuleAt := fun _ _ _ _ ⟨sv, dv, h1, h2, h3⟩ hb => ⟨sv, dv, h1, sels_firm _ _ _ _ h2 hb, decls_firm _ _ _ _ h3 hb⟩
theorem rules_firm : Firm RulesAt := nest_firm rule_firm
theorem nodes_firm : Firm NodesAt := fun _ _ _ _ h hb => h.kept hb
theorem NestIn.reads {α : Type} {f : α → Value → List Value} {size : Nat} {Q : World → (Nat → Prop) → Value → α → Prop} {Q' : World → Value → α → Prop} (hQ : ∀ w X u x, Q w X u x → Q' w u x) {w : World} {X : Nat → Prop} {v : Value} {xs : List α} (h : NestIn f size Q w X v xs) : NestAt f size Q' w v xs := by
  obtain ⟨vs, h0, h1, _, h4⟩ := h
  exact ⟨vs, h0, h1, fun i x u hx hu => hQ _ _ _ _ (h4 i x u hx hu)⟩
section
variable {w w' : World} {v : Value} {ds : List PDecl} {ts : List PTest} {ss : List B}
theorem DeclsAt.form (h : DeclsAt w v ds) : ∃ a cap, v = .slice a ds.length cap ∧ ds.length ≤ cap ∧ cap ≤ maxLen := by
  obtain ⟨a, cap, e, h1, h2, _⟩ := h
  exact ⟨a, cap, by rw [e, List.length_map], by simpa using h1, h2⟩
theorem DeclsAt.at {a : Option Addr} {n cap : Nat} (h : DeclsAt w (.slice a n cap) ds) {k : Nat} {x : PDecl} (hx : ds[k]? = some x) :
    ∃ b off, a = some ⟨b, off, none⟩ ∧ w.cell? ⟨b, off + k * 3, none⟩ = some (.string (str x.name)) ∧ w.cell? ⟨b, off + k * 3 + 1, none⟩ = some (.string (str x.val)) ∧ w.cell? ⟨b, off + k * 3 + 2, none⟩ = some (.bool x.strong) := by
  obtain ⟨b, off, ha, h4⟩ := RowsAt.at h (k := k) (r := declCells x) (by simp [hx])
  exact ⟨b, off, ha, h4 0 _ rfl, h4 1 _ rfl, h4 2 _ rfl⟩
theorem TestsAt.form (h : TestsAt w v ts) : ∃ a cap, v = .slice a ts.length cap ∧ ts.length ≤ cap ∧ cap ≤ maxLen := by
  obtain ⟨a, cap, e, h1, h2, _⟩ := h
  exact ⟨a, cap, by rw [e, List.length_map], by simpa using h1, h2⟩
theorem TestsAt.at {a : Option Addr} {n cap : Nat} (h : TestsAt w (.slice a n cap) ts) {k : Nat} {x : PTest} (hx : ts[k]? = some x) :
    ∃ b off, a = some ⟨b, off, none⟩ ∧ w.cell? ⟨b, off + k * 3, none⟩ = some (.int .i64 x.kind) ∧ w.cell? ⟨b, off + k * 3 + 1, none⟩ = some (.string (str x.name)) ∧ w.cell? ⟨b, off + k * 3 + 2, none⟩ = some (.string (str x.val)) := by
  obtain ⟨b, off, ha, h4⟩ := RowsAt.at h (k := k) (r := testCells x) (by simp [hx])
  exact ⟨b, off, ha, h4 0 _ rfl, h4 1 _ rfl, h4 2 _ rfl⟩
theorem StrsAt.form (h : StrsAt w v ss) : ∃ a cap, v = .slice a ss.length cap ∧ ss.length ≤ cap ∧ cap ≤ maxLen := by
  obtain ⟨a, cap, e, h1, h2, _⟩ := h
  exact ⟨a, cap, by rw [e, List.length_map], by simpa using h1, h2⟩
theorem StrsAt.at {a : Option Addr} {n cap : Nat} (h : StrsAt w (.slice a n cap) ss) {k : Nat} {x : B} (hx : ss[k]? = some x) :
    ∃ b off, a = some ⟨b, off, none⟩ ∧ w.cell? ⟨b, off + k, none⟩ = some (.string (str x)) := by
  obtain ⟨b, off, ha, h4⟩ := RowsAt.at h (k := k) (r := [Value.string (str x)]) (by simp [hx])
  exact ⟨b, off, ha, by simpa using h4 0 _ rfl⟩
end
end Go.Proofs.YtplbdlgmjehckabGreatDoor

namespace Go.Proofs.YtplbdlgmjehckabGreatDoor
open Go.RowKit
set_option linter.unusedVariables false
set_option linter.unusedSimpArgs false
theorem retb {a b : Bool} (h : a = b) : Ending.returned (.bool a) = .returned (.bool b) := by rw [h]
theorem reti {k : IntKind} {a b : Int} (h : a = b) : Ending.returned (.int k a) = .returned (.int k b) := by rw [h]
theorem rets {a b : ByteArray} (h : a = b) : Ending.returned (.string a) = .returned (.string b) := by rw [h]
def idx : Option Nat → Int
  | none => -1
  | some k => (k : Int)
end Go.Proofs.YtplbdlgmjehckabGreatDoor

namespace Go.Proofs.YtplbdlgmjehckabGreatDoor
open Go.RowKit
set_option linter.unusedVariables false
set_option linter.unusedSimpArgs false
theorem pGet_hit {nm : B} {al : List PAttr} {k : Nat} {x : PAttr} (hb : ∀ j y, j < k → al[j]? = some y → (y.name == nm) = false) (hx : al[k]? = some x) (hn : (x.name == nm) = true) : pGet al nm = (x.val, true) := by
  have hf : al.find? (fun a => a.name == nm) = some x := by
    obtain ⟨hk, hxx⟩ := List.getElem?_eq_some_iff.1 hx
    rw [List.find?_eq_some_iff_getElem]
    refine ⟨hn, k, hk, hxx, fun j hj => ?_⟩
    have := hb j al[j] hj (List.getElem?_eq_getElem _)
    simp [this]
  unfold pGet; rw [hf]
theorem pGet_miss {nm : B} {al : List PAttr} (hb : ∀ (j : Nat) (y : PAttr), al[j]? = some y → (y.name == nm) = false) : pGet al nm = ([], false) := by
  have hf : al.find? (fun a => a.name == nm) = none := by
    rw [List.find?_eq_none]
    intro x hx
    obtain ⟨j, hj⟩ := List.mem_iff_getElem?.1 hx
    simp [hb j x hj]
  unfold pGet; rw [hf]
theorem retpair {a b : B × Bool} (h : a = b) : Ending.returned (.tuple #[.string (str a.1), .bool a.2]) = .returned (.tuple #[.string (str b.1), .bool b.2]) := by rw [h]
def GetEnds (w : World) (r : B × Bool) (e : Ending) (w' : World) : Prop := e = .returned (.tuple #[.string (str r.1), .bool r.2]) ∧ Below w.heap.size w w'
set_option maxHeartbeats 800000 in
theorem get_any (w : World) (v : Value) (n : PNode) (nm : B) (hv : AttrsAt w v n.attrs) :
    Calls Tryz.prog 20 #[.agg #[.string (str n.name), .int .i64 n.parent, v, .int .i64 n.nameEnd, .int .i64 n.inF, .int .i64 n.inT], .string (str nm)] w (GetEnds w (pGet n.attrs nm)) := by
  have HV := Lib.hid hv
  obtain ⟨a, cap, rfl, hle, hcap⟩ := hv.form
  obtain ⟨name, parent, al, nameEnd, inF, inT⟩ := n
  simp only at HV hle ⊢
  unfold maxLen at hcap
  clear hv
  go_enter Tryz.func20, Tryz.ntmps20
  go_wp2
  go_loopw [11] (fun i wr => ∃ k : Nat, k ≤ al.length ∧ i = .int .i64 k ∧ Below w.heap.size w wr ∧ Hid (∀ j y, j < k → al[j]? = some y → (y.name == nm) = false)) (fun i _ => al.length - (intOf i).toNat)
  case atStart => exact ⟨0, by omega, rfl, (Below.refl _ _).alloc (Nat.le_refl _) _, fun j y hj => by omega⟩
  case round =>
    obtain ⟨k, hk, rfl, hb, HH⟩ := hrel
    by_cases hlt : k < al.length
    · have hv1 := HV.out.below hb
      have hx := List.getElem?_eq_getElem hlt
      generalize hgx : al[k] = x at hx
      clear hgx
      obtain ⟨b, off, rfl, g0, g1, g2, g3⟩ := AttrsAt.at hv1 hx
      have HX := Lib.hid hx
      have HB := Lib.hid hb
      clear hx hv1 hb
      have hal := HB.out.alloc HB.out.size (.cells #[.string (str x.name), .string (str x.val), .int .i64 x.lo, .int .i64 x.hi] 117 (0, 0))
      have HAL := Lib.hid hal
      clear hal
      cases hc : (x.name == nm) with
      | true =>
        go_wp2
        refine bodyPost_ret (v := .tuple #[.string (str x.val), .bool true]) (by simp [results, Tryz.results20, go_sem]) rfl ?_
        exact ⟨retpair (a := (x.val, true)) (pGet_hit HH.out HX.out hc).symm, HAL.out⟩
      | false =>
        go_wp2
        go_roundw
        case rel =>
          refine ⟨k + 1, by omega, by go_num, HAL.out, fun j y hj hy => ?_⟩
          by_cases hjk : j = k
          · subst hjk
            rw [HX.out] at hy; cases hy
            exact hc
          · exact HH.out j y (by omega) hy
        case measure => simp [intOf]; omega
    · go_wp2
      refine bodyPost_ret (v := .tuple #[.string (str []), .bool false]) (by simp [results, Tryz.results20, go_sem]; rfl) rfl ?_
      refine ⟨retpair (b := pGet al nm) (a := ([], false)) ?_, hb⟩
      rw [pGet_miss (fun j y hy => HH.out j y (by have := (List.getElem?_eq_some_iff.1 hy).1; omega) hy)]
def AheadEnds (w : World) (r : Int) (e : Ending) (w' : World) : Prop := e = .returned (.int .i64 r) ∧ Qt w w'
set_option maxHeartbeats 1600000 in
theorem ahead_any (w : World) (v : Value) (ns : List PNode) (k : Int) (hv : NodesAt w v ns) (hk : -9223372036854775808 ≤ k ∧ k ≤ 9223372036854775807) :
    Calls Tryz.prog 158 #[v, .int .i64 k] w (AheadEnds w (pAhead ns k)) := by
  have HV := Lib.hid hv
  obtain ⟨a, cap, rfl, hle, hcap⟩ := hv.form
  unfold maxLen at hcap
  clear hv
  obtain ⟨hk1, hk2⟩ := hk
  obtain ⟨r, HR⟩ : ∃ r, Hid (pAhead ns k = r) := ⟨_, rfl⟩
  rw [HR.out]
  by_cases h0 : k < 0
  · go_enter Tryz.func158, Tryz.ntmps158
    go_wp2
    go_ret
    exact ⟨reti (by rw [← HR.out]; unfold pAhead; rw [if_pos (.inl h0)]), Qt.refl _⟩
  · by_cases h1 : (ns.length : Int) ≤ k
    · go_enter Tryz.func158, Tryz.ntmps158
      go_wp2
      go_ret
      exact ⟨reti (by rw [← HR.out]; unfold pAhead; rw [if_pos (.inr h1)]), Qt.refl _⟩
    · obtain ⟨kn, rfl⟩ : ∃ n : Nat, k = n := ⟨k.toNat, by omega⟩
      have hkl : kn < ns.length := by omega
      have hx := List.getElem?_eq_getElem hkl
      generalize hgx : ns[kn] = x at hx
      clear hgx
      obtain ⟨b, off, av, rfl, g0, g1, g2, g3, g4, g5, hav⟩ := HV.out.at hx
      have hr : lastWith ns x.parent kn = r := by
        have := HR.out
        unfold pAhead at this
        rw [if_neg (by omega), Int.toNat_natCast, hx] at this
        exact this
      have HX := Lib.hid hx
      clear hx g0 g2 g3 g4 g5 hav
      go_enter Tryz.func158, Tryz.ntmps158
      go_wp2
      have hst : Hid (lastWith ns x.parent kn = r) := Lib.hid hr
      clear hr
      go_loopw [5] (fun i wr => ∃ j : Nat, j ≤ kn ∧ i = .int .i64 ((j : Int) - 1) ∧ Hid (Qt w wr) ∧ Hid (lastWith ns x.parent j = r)) (fun i _ => (intOf i + 1).toNat)
      case atStart => exact ⟨kn, by omega, rfl, Qt.refl _, hst⟩
      case round =>
        obtain ⟨j, hj, rfl, HQ, HJ⟩ := hrel
        cases j with
        | zero =>
          go_wp2
          go_ret
          exact ⟨reti HJ.out, HQ.out⟩
        | succ i =>
          have hil : i < ns.length := by omega
          have hy := List.getElem?_eq_getElem hil
          generalize hgy : ns[i] = y at hy
          clear hgy
          obtain ⟨b2, off2, av2, hbb, g0, q1, g2, g3, g4, g5, hav⟩ := (HV.out.quiet HQ.out).at hy
          cases hbb
          obtain ⟨b3, off3, av3, hbb, g0', p1, g2', g3', g4', g5', hav'⟩ := (HV.out.quiet HQ.out).at HX.out
          cases hbb
          have HY := Lib.hid hy
          clear hy g0 g2 g3 g4 g5 hav g0' g2' g3' g4' g5' hav' g1
          have hi0 : ((i + 1 : Nat) : Int) - 1 = i := by omega
          have hJ := HJ.out
          rw [lastWith, HY.out] at hJ
          simp only [Option.any_some] at hJ
          rw [hi0]
          have HJJ := Lib.hid hJ
          clear hJ
          cases hc : (y.parent == x.parent) with
          | true =>
            go_wp2
            go_quiet (fail)
            go_wp2
            go_ret
            exact ⟨reti (by have := HJJ.out; rw [if_pos hc] at this; exact this), Qt.trans HQ.out ⟨nq, rfl⟩⟩
          | false =>
            go_wp2
            go_quiet (fail)
            go_wp2
            go_roundw
            case rel => exact ⟨i, by omega, rfl, Qt.trans HQ.out ⟨nq, rfl⟩, Lib.hid (by have := HJJ.out; rw [if_neg (by simp [hc])] at this; exact this)⟩
            case measure => simp [intOf]
end Go.Proofs.YtplbdlgmjehckabGreatDoor

namespace Go.Proofs.YtplbdlgmjehckabGreatDoor
open Go.RowKit
set_option linter.unusedVariables false
set_option linter.unusedSimpArgs false
theorem index_blank (l : B) : Lib.index (32 :: l) [32] = 0 := by rw [Lib.index]; simp [List.isPrefixOf]
theorem index_other {c : UInt8} (l : B) (h : c ≠ 32) : Lib.index (c :: l) [32] = if Lib.index l [32] == -1 then -1 else Lib.index l [32] + 1 := by
  have hp : ([32] : List UInt8).isPrefixOf (c :: l) = false := by simp [List.isPrefixOf, Ne.symm h]
  rw [Lib.index, hp]; simp
theorem splitK_blank : ∀ (l : B) (k : Nat), l.count 32 = k → Lib.splitK [32] 0 k l = splitB l
  | [], k, h => by
    have : k = 0 := by rw [← h]; rfl
    subst this; rfl
  | c :: t, k, h => by
    by_cases hc : c = 32
    · subst hc
      rw [List.count_cons_self] at h
      subst h
      simp only [Lib.splitK, index_blank, splitB, if_pos]
      rw [if_neg (by simp)]
      simp only [Int.toNat_zero, Nat.zero_add, List.take_zero, List.length_cons, List.length_nil, List.drop_succ_cons, List.drop_zero]
      rw [splitK_blank t _ rfl]
    · rw [List.count_cons_of_ne (by simpa using hc)] at h
      have ih := splitK_blank t k h
      simp only [splitB]
      rw [if_neg hc, ← ih]
      cases k with
      | zero => simp [Lib.splitK]
      | succ j =>
        have hi : Lib.index t [32] ≠ -1 := by
          intro hm
          have := Lib.count_miss (sub := [32]) hm
          rw [Lib.count_one] at this
          omega
        have hge := Lib.index_ge t [32]
        obtain ⟨i, hi2⟩ : ∃ i : Nat, Lib.index t [32] = i := ⟨(Lib.index t [32]).toNat, by omega⟩
        simp only [Lib.splitK, index_other t hc, hi2]
        have h1 : ¬ (((i : Int) == -1) = true) := by simp
        have h2 : ¬ (((i : Int) + 1 == -1) = true) := by simp; omega
        simp only [if_neg h1, if_neg h2]
        have e : ((i : Int) + 1).toNat = i + 1 := by omega
        simp [e]
theorem split_words (l : B) : Lib.splitB (str [32]) 0 (Lib.countB (str l) (str [32])) (str l) = (splitB l).map str := by
  have h := Lib.splitB_data (str [32]) 0 (Lib.countB (str l) (str [32])) (str l)
  have hc : Lib.countB (str l) (str [32]) = l.count 32 := by
    show Lib.count l [32] = _
    rw [Lib.count_one]
  have h2 : Lib.splitK (str [32]).data.toList 0 (Lib.countB (str l) (str [32])) (str l).data.toList = splitB l := by
    rw [hc]; exact splitK_blank l _ rfl
  rw [h2] at h
  rw [← h, List.map_map]
  conv => lhs; rw [← List.map_id (Lib.splitB (str [32]) 0 (Lib.countB (str l) (str [32])) (str l))]
  apply List.map_congr_left
  intro x _
  exact eq_str x
theorem split_count (l : B) : Lib.countB (str l) (str [32]) + 1 = (splitB l).length := by
  have h := Lib.splitB_all (str [32]) (by decide) 0 _ (str l) rfl
  rw [split_words, List.length_map] at h
  exact h.symm
theorem splitB_len (l : B) : (splitB l).length ≤ l.length + 1 := by
  induction l with
  | nil => simp [splitB]
  | cons c t ih =>
    simp only [splitB]
    split
    · simpa using ih
    · split
      · simp
      · rename_i w ws h; rw [h] at ih; simp at ih ⊢; omega
def strCells (x : B) : List Value := [.string (str x)]
theorem split_any (l : B) (m : Int) (w : World) (hl : l.length < 4294967281) (hm : w.cell? ⟨0, 0, none⟩ = some (.int .i64 m)) :
    Calls Tryz.prog 122 #[.string (str l), .string (str [32])] w fun e w' => e = .returned (.slice (some ⟨w.heap.size, 0, none⟩) (splitB l).length (splitB l).length) ∧
      w' = w.alloc (.cells ((splitB l).map fun x => Value.string (str x)).toArray 9 (0, 0)) :=
  (Tryz.strings_Split (str l) (str [32]) m w hl hm (by decide)).mono fun e w' ⟨he, hw⟩ => by
    rw [split_count] at he
    rw [split_words, List.map_map] at hw
    exact ⟨he, hw⟩
end Go.Proofs.YtplbdlgmjehckabGreatDoor

