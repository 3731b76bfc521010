/-
  A map that the call makes, in the block that is the newest: what stands in it, entry by entry.
-/
import Derived.Test.YtplbdlgmjehckacDoorMem
import Derived.MapKept
import Derived.WideMake
import Derived.Maps.Own
namespace Go.Proofs.YtplbdlgmjehckacDoor
open Go.RowKit
set_option linter.unusedVariables false
set_option linter.unusedSimpArgs false

theorem set_top (w : World) (o o' : Obj) : { (w.alloc o) with heap := (w.alloc o).heap.setIfInBounds w.heap.size o' } = w.alloc o' := by
  have h : ((w.alloc o).heap.setIfInBounds w.heap.size o') = (w.alloc o').heap := by
    show ((w.heap.push o).setIfInBounds w.heap.size o') = w.heap.push o'
    apply Array.ext
    · simp
    · intro i h1 h2
      rw [Array.getElem_setIfInBounds]
      · by_cases hi : w.heap.size = i
        · subst hi; simp
        · have : i < w.heap.size := by simp at h2; omega
          rw [if_neg hi, Array.getElem_push_lt this, Array.getElem_push_lt this]
      · simpa using h1
  rw [h]; rfl
section
variable {P : Program} {mty kt et : TypeId} {kind : TypeDesc}
theorem run_made (w : World) (t : TypeId) : (Instr.makeMap t none).run P w = .ok (.map (some w.heap.size)) (w.alloc (.map #[] 0)) := rfl
theorem run_insert_top (hm : P.underlying mty = some (.map kt et)) (hk : P.underlying kt = some kind) (w : World) {es : Array MapEntry} {c : Nat} {k v : Value} (hik : MapKept.IsKey kind k) (hf : Instr.findNow kind k es.toList 0 = some none) :
    (Instr.mapUpdate mty (.map (some w.heap.size)) k v).run P (w.alloc (.map es c)) = .ok () (w.alloc (.map (es.push ⟨k, v, c⟩) (c + 1))) := by
  have hb : (w.alloc (.map es c)).heap[w.heap.size]? = some (.map es c) := newIn w _
  have hc : (Instr.checkKey false 10000 kt k).run P (w.alloc (.map es c)) = .ok () (w.alloc (.map es c)) := MapKept.run_checkKey hk hik false 9999
  have h1 : (Instr.mapUpdate mty (.map (some w.heap.size)) k v).run P (w.alloc (.map es c)) = .ok () { (w.alloc (.map es c)) with heap := (w.alloc (.map es c)).heap.setIfInBounds w.heap.size (.map (es.push ⟨k, v, c⟩) (c + 1)) } := by
    simp [Instr.mapUpdate, run_underlying hm, MapKept.run_getObj_map hb, hc, MapKept.run_findKey hk hf, MapKept.run_setObj_map _ hb, Result.andThen]
  rw [h1, set_top]
theorem run_look_hit (hm : P.underlying mty = some (.map kt et)) (hk : P.underlying kt = some kind) {w : World} {r : Nat} {es : Array MapEntry} {c i : Nat} {k v : Value} (hb : w.heap[r]? = some (.map es c)) (hik : MapKept.IsKey kind k) (hf : Instr.findNow kind k es.toList 0 = some (some (i, v))) (ok : Bool) :
    (Instr.lookup mty (.map (some r)) k ok).run P w = .ok (if ok then .tuple #[v, .bool true] else v) w := by
  have hc : (Instr.checkKey es.isEmpty 10000 kt k).run P w = .ok () w := MapKept.run_checkKey hk hik _ 9999
  simp [Instr.lookup, run_underlying hm, MapKept.run_getObj_map hb, hc, MapKept.run_findKey hk hf, Result.andThen]
theorem run_look_miss (hm : P.underlying mty = some (.map kt et)) (hk : P.underlying kt = some kind) {w : World} {r : Nat} {es : Array MapEntry} {c : Nat} {k z : Value} (hb : w.heap[r]? = some (.map es c)) (hik : MapKept.IsKey kind k) (hf : Instr.findNow kind k es.toList 0 = some none) (hz : (zeroValue et).run P w = .ok z w) (ok : Bool) :
    (Instr.lookup mty (.map (some r)) k ok).run P w = .ok (if ok then .tuple #[z, .bool false] else z) w := by
  have hc : (Instr.checkKey es.isEmpty 10000 kt k).run P w = .ok () w := MapKept.run_checkKey hk hik _ 9999
  simp [Instr.lookup, run_underlying hm, MapKept.run_getObj_map hb, hc, MapKept.run_findKey hk hf, hz, Result.andThen]
end
end Go.Proofs.YtplbdlgmjehckacDoor
