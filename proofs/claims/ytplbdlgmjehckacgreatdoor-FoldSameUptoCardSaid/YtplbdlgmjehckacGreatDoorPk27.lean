/-
 Lemmas for the claims of this seat: the program's functions walked, and plain laws. In this order: StrsMem R3Get R3Test R3Means R3Weigh MtLess R3Best R3Words R3All R3Touch FoSetsW CdFrame.
-/
import Derived.Test.YtplbdlgmjehckacGreatDoorPk9
import Derived.Test.YtplbdlgmjehckacGreatDoorPk13
import Derived.Test.YtplbdlgmjehckacGreatDoorPk26
import Derived.Test.YtplbdlgmjehckacGreatDoorPk14
import Derived.Deep.QuietTactic
import Derived.Test.YtplbdlgmjehckacGreatDoorPk4
import Derived.Test.YtplbdlgmjehckacGreatDoorPk15
import Derived.Deep.DeepCutAuto
import Derived.Deep.CutBlock
import Derived.Deep.Light
import Derived.Deep.LoopGhost
import Derived.Deep.RegionHeld3
import Derived.Test.YtplbdlgmjehckacGreatDoorPk16
import Derived.Test.YtplbdlgmjehckacGreatDoorPk8
import Derived.Test.YtplbdlgmjehckacGreatDoorPk17
import Derived.Test.YtplbdlgmjehckacGreatDoorTie
import Derived.Test.YtplbdlgmjehckacGreatDoorCards
import Derived.HandedShaped
import Derived.ProofKit
import Derived.Shelf.Vars
import Derived.Deep.DeepHandedRow
import Derived.Deep.DeepWitnessRowRef
namespace Go.Proofs.YtplbdlgmjehckacGreatDoor
open Go.RowKit
set_option linter.unusedVariables false
set_option linter.unusedSimpArgs false
def StrsIn (w : World) (X : Nat → Prop) (v : Value) (ss : List B) : Prop := StrsAt w v ss ∧ ∀ k, v.ownBlock = some k → ¬ X k ∧ k < w.heap.size
theorem strsIn_lasts : Lasts StrsIn := fun w w' X X' S v ds h hk hS hX =>
 ⟨RowsAt.kept h.1 hk (fun k hk' hs => (h.2 k hk').1 (hS k (h.2 k hk').2 hs)), fun k hk' => ⟨fun hx => (h.2 k hk').1 (hX k (h.2 k hk').2 hx), Nat.lt_of_lt_of_le (h.2 k hk').2 hk.size⟩⟩
def setCells (_ : List B) (v : Value) : List Value := [v]
theorem setCells_len (s : List B) (v : Value) : (setCells s v).length = 1 := rfl
theorem info_strs : (Tryz.prog.info? 58).map (fun i => (i.zero, i.size, i.bytes)) = some (some (.slice none 0 0), 1, 24) := by kernel_rfl
def SetsIn (w : World) (X : Nat → Prop) (v : Value) (ss : List (List B)) : Prop := NestIn setCells 1 StrsIn w X v ss
theorem zip_sets : ∀ (xs : List (List B)) (vs : List Value), vs.length = xs.length → (List.zipWith setCells xs vs).flatten = vs
 | [], [], _ => rfl
 | [], _ :: _, h => by simp at h
 | _ :: _, [], h => by simp at h
 | x :: xs, v :: vs, h => by
  simp only [List.length_cons, Nat.add_right_cancel_iff] at h
  rw [List.zipWith_cons_cons, List.flatten_cons, zip_sets xs vs h]
  rfl
theorem SetsIn.at {w : World} {X : Nat → Prop} {v : Value} {ss : List (List B)} (h : SetsIn w X v ss) {i : Nat} {s : List B} (hx : ss[i]? = some s) : ∃ b off cap u, v = .slice (some ⟨b, off, none⟩) ss.length cap ∧ w.cell? ⟨b, off + i, none⟩ = some u ∧ StrsAt w u s := by
 obtain ⟨vs, h1, ⟨a, cap, hv, h2, h3, h4⟩, _, h5⟩ := h
 have hi : i < vs.length := by rw [h1]; exact (List.getElem?_eq_some_iff.1 hx).1
 have hu := List.getElem?_eq_getElem hi
 have hz : (List.zipWith setCells ss vs)[i]? = some [vs[i]] := by
  rw [List.getElem?_zipWith, hx, hu]; rfl
 obtain ⟨b, off, ha, hc⟩ := h4 (by intro hn; rw [hn] at hz; simp at hz)
 have := hc i _ hz 0 vs[i] rfl
 rw [Nat.mul_one, Nat.add_zero] at this
 refine ⟨b, off, cap, vs[i], ?_, this, (h5 i s _ hx hu).1⟩
 rw [hv, ha, List.length_zipWith, h1, Nat.min_self]
theorem sets_old {w : World} {base e : Nat} {v : Value} {xs ys : List (List B)} {vs us : List Value} (h : NestOwn setCells 1 e StrsIn w base v (xs ++ ys) (vs ++ us)) (hl : vs.length = xs.length) {b : Nat} {oa : Option Addr} {oc : Nat} (ho : w.ownsRow b e 1 (.slice oa xs.length oc) xs.length vs)
  {i : Nat} {x : List B} (hx : xs[i]? = some x) : ∃ g u, oa = some ⟨g, 0, none⟩ ∧ w.cell? ⟨g, i, none⟩ = some u ∧ StrsIn w (fun k => k < base ∨ v.ownBlock = some k) u x := by
 have hi := (List.getElem?_eq_some_iff.1 hx).1
 have hiv : i < vs.length := by rw [hl]; exact hi
 have hu := List.getElem?_eq_getElem hiv
 have hq := h.nest i x vs[i] (by rw [List.getElem?_append_left hi]; exact hx) (by rw [List.getElem?_append_left hiv]; exact hu)
 rcases ho.2 with ⟨hv, hn⟩ | ⟨g, cap, cur, hv, _⟩
 ·omega
 ·simp only [Value.slice.injEq] at hv
  obtain ⟨rfl, _, rfl⟩ := hv
  exact ⟨g, vs[i], rfl, by rw [ho.cellAt i (by omega)]; exact hu, hq⟩
structure SgW (base : Nat) (w0 wr : World) (v : Value) (ss : List B) : Prop where
 own : wr.ownsRow base 9 1 v ss.length (ss.map fun x => [Value.string (str x)]).flatten
 kept : Kept (fun _ => False) w0 wr
 low : w0.heap.size ≤ base
theorem SgW.start (w : World) : SgW w.heap.size w w (.slice none 0 0) [] := ⟨World.ownsRow_nil _ _ _ _, Kept.refl _ _, Nat.le_refl _⟩
theorem SgW.still {base : Nat} {w0 wr wx : World} {v : Value} {ss : List B} (h : SgW base w0 wr v ss) (hk : Kept (fun _ => False) wr wx) : SgW base w0 wx v ss := ⟨owns_kept h.own hk (fun _ _ => id), h.kept.trans hk, h.low⟩
theorem SgW.form {base : Nat} {w0 wr : World} {v : Value} {ss : List B} (h : SgW base w0 wr v ss) : ∃ ao ac, v = .slice ao ss.length ac := by
 rcases h.own.2 with ⟨rfl, hn⟩ | ⟨g, cap, cur, rfl, _⟩
 ·exact ⟨none, 0, by rw [hn]⟩
 ·exact ⟨_, cap, rfl⟩
theorem SgW.reads {base : Nat} {w0 wr : World} {v : Value} {ss : List B} (h : SgW base w0 wr v ss) : StrsAt wr v ss :=
 rowsAt_of_owns (fun r hr => by obtain ⟨a, _, rfl⟩ := List.mem_map.1 hr; rfl) (by simp) h.own
theorem flat1 : ∀ ns : List B, (ns.map fun x => [Value.string (str x)]).flatten = ns.map fun x => Value.string (str x)
 | [] => rfl
 | y :: ys => by rw [List.map_cons, List.flatten_cons, List.map_cons, flat1 ys]; rfl
theorem rows_lit {w : World} {b size : Nat} {rows : List (List Value)} {cs : Array Value} {t : TypeId} {fz : Nat × Nat} (h : w.heap[b]? = some (.cells cs t fz)) (hc : cs = rows.flatten.toArray) (hl : ∀ r ∈ rows, r.length = size) {n : Nat} (hn : n = rows.length) (hm : rows.length ≤ maxLen) :
  RowsAt w size (.slice (some ⟨b, 0, none⟩) n n) rows := by
 subst hn
 refine ⟨_, _, rfl, Nat.le_refl _, hm, fun _ => ⟨_, _, rfl, fun i r hr j c hj => ?_⟩⟩
 subst hc
 rw [show 0 + i * size + j = i * size + j by omega]
 exact cellIn h _ (by rw [List.getElem?_toArray]; exact flatten_get size rows hl i r hr j c hj)
theorem SgW.push {base : Nat} {w0 wr : World} {ao : Option Addr} {ac : Nat} {ss : List B} (h : SgW base w0 wr (.slice ao ss.length ac) ss) (hb : base ≤ wr.heap.size) (ns : List B) (n : Nat) (hnl : ns.length = n) (hn : 0 < n) (cs : Array Value) (hcs : cs = (ns.map fun x => Value.string (str x)).toArray) (hq : ss.length + n ≤ 4398100000000) :
  ∃ a' c' w', (Builtin.append_ #[58, 58] 58 #[.slice ao ss.length ac, .slice (some ⟨wr.heap.size, 0, none⟩) n n]).run Tryz.prog (wr.alloc (.cells cs 9 (0, 0))) = .ok (.slice a' (ss.length + n) c') w' ∧ SgW base w0 w' (.slice a' (ss.length + n) c') (ss ++ ns) ∧ Kept (fun k => (Value.slice ao ss.length ac).ownBlock = some k) wr w' := by
 subst hcs
 obtain ⟨i0, hi0, hz0, hz1, hz2⟩ := info_parts info_str
 obtain ⟨wa, HWA⟩ : ∃ x, wr.alloc (.cells (ns.map fun x => Value.string (str x)).toArray 9 (0, 0)) = x := ⟨_, rfl⟩
 have hbk : wa.heap[wr.heap.size]? = some (.cells (ns.map fun x => Value.string (str x)).toArray 9 (0, 0)) := by rw [← HWA]; exact newIn wr _
 have hka : Kept (fun _ => False) wr wa := by rw [← HWA]; exact (Kept.refl _ wr).alloc _
 obtain ⟨h2, hk, hlow⟩ := h.still hka
 have hfl := flat1 ns
 obtain ⟨a', c', w', hr', ho', k', _⟩ := append_any (P := Tryz.prog) wa 58 58 base 9 i0 _ 1 16 Tryz.underlying58 hi0 hz0 hz1 hz2 rfl (by omega) ao ss.length ac _ h2 (some ⟨wr.heap.size, 0, none⟩) n n (ns.map fun x => [Value.string (str x)]) (rows_lit hbk (by rw [hfl]) (by intro r hr; obtain ⟨a, _, rfl⟩ := List.mem_map.1 hr; rfl) (by simp [hnl]) (by rw [List.length_map, hnl]; unfold maxLen; omega)) (by intro r hr; obtain ⟨a, _, rfl⟩ := List.mem_map.1 hr; rfl) (by rw [hfl]; intro u hu; obtain ⟨a, _, rfl⟩ := List.mem_map.1 hu; rfl) (by unfold maxLen; omega) (by omega) (Nat.le_trans hb hka.size)
 rw [HWA]
 refine ⟨a', c', w', hr', ⟨?_, hk.trans' k' (fun i hi hx => ?_), hlow⟩, ((Kept.refl _ wr).alloc _).trans (HWA ▸ k')⟩
 ·rw [List.length_append, List.map_append, List.flatten_append, hnl]
  exact ho'
 ·have := (h2.lt i hx).1; omega
theorem own_prefix {w w' : World} {base b e size : Nat} (hsz : 0 < size) {g n m cap cap' : Nat} {xs ys : List Value} (h : w.ownsRow base e size (.slice (some ⟨g, 0, none⟩) n cap) n xs) (ho : w.ownsRow b e size (.slice (some ⟨g, 0, none⟩) m cap') m ys) (hmn : m ≤ n) (h' : w'.ownsRow base e size (.slice (some ⟨g, 0, none⟩) n cap) n xs) :
  w'.ownsRow b e size (.slice (some ⟨g, 0, none⟩) m cap') m ys := by
 rcases h.2 with ⟨hv, _⟩ | ⟨g1, c1, cur, hv, hb1, hh, hn1, hc1, hs1, ht1⟩
 ·cases hv
 ·cases hv
  rcases ho.2 with ⟨hv, _⟩ | ⟨g2, c2, cur2, hv, hb2, hh2, hn2, hc2, hs2, ht2⟩
  ·cases hv
  ·cases hv
   rcases h'.2 with ⟨hv, _⟩ | ⟨g3, c3, cur3, hv, hb3, hh3, hn3, hc3, hs3, ht3⟩
   ·cases hv
   ·cases hv
    rw [hh] at hh2
    cases hh2
    have hcc : cap = cap' := Nat.eq_of_mul_eq_mul_right hsz (hs1.symm.trans hs2)
    subst hcc
    refine ⟨ho.1, .inr ⟨g, cap, cur3, rfl, hb2, hh3, hn2, hc2, hs3, ?_⟩⟩
    rw [← ht2]
    have hle : m * size ≤ n * size := Nat.mul_le_mul_right _ hmn
    have e1 : cur3.toList.take (m * size) = (cur3.toList.take (n * size)).take (m * size) := by rw [List.take_take, Nat.min_eq_left hle]
    have e2 : cur.toList.take (m * size) = (cur.toList.take (n * size)).take (m * size) := by rw [List.take_take, Nat.min_eq_left hle]
    rw [e1, e2, ht3, ht1]
structure SsW (base : Nat) (w0 wr : World) (v : Value) (xs : List (List B)) (vs : List Value) : Prop where
 nest : NestOwn setCells 1 58 StrsIn wr base v xs vs
 kept : Kept (fun _ => False) w0 wr
 low : w0.heap.size ≤ base
theorem SsW.still {base : Nat} {w0 wr wx : World} {v : Value} {xs : List (List B)} {vs : List Value} (h : SsW base w0 wr v xs vs) (hk : Kept (fun _ => False) wr wx) : SsW base w0 wx v xs vs :=
 ⟨⟨h.nest.len, owns_kept h.nest.own hk (fun _ _ => id), fun i x u hx hu => strsIn_lasts _ _ _ _ (fun _ => False) _ _ (h.nest.nest i x u hx hu) hk (fun k _ hs => hs.elim) (fun k _ hx => hx)⟩, h.kept.trans hk, h.low⟩
theorem SsW.push (tt : TypeId) (htt : Tryz.prog.underlying tt = some (.slice 58)) {base : Nat} {w0 wr : World} {ao : Option Addr} {ac : Nat} {xs : List (List B)} {vs : List Value} (h : SsW base w0 wr (.slice ao xs.length ac) xs vs) (hb : base ≤ wr.heap.size) {x : List B} {u : Value} (hu : StrsIn wr (fun k => k < base ∨ (Value.slice ao xs.length ac).ownBlock = some k) u x) (hu1 : u.oneCell' = true) (hq : xs.length ≤ 4398046511104)
  {b1 m oc : Nat} {oa : Option Addr} {ys : List Value} (ho : wr.ownsRow b1 58 1 (.slice oa m oc) m ys) (hm : m ≤ xs.length) (hb1 : w0.heap.size ≤ b1) :
  ∃ a' c' w', (Builtin.append_ #[tt, tt] tt #[.slice ao xs.length ac, .slice (some ⟨wr.heap.size, 0, none⟩) 1 1]).run Tryz.prog (wr.alloc (.cells #[u] 58 (0, 0))) = .ok (.slice a' (xs.length + 1) c') w' ∧ SsW base w0 w' (.slice a' (xs.length + 1) c') (xs ++ [x]) (vs ++ [u]) ∧
   w'.ownsRow b1 58 1 (.slice oa m oc) m ys := by
 obtain ⟨i0, hi0, hz0, hz1, hz2⟩ := info_parts info_strs
 obtain ⟨wa, HWA⟩ : ∃ x, wr.alloc (.cells #[u] 58 (0, 0)) = x := ⟨_, rfl⟩
 have hbk : wa.heap[wr.heap.size]? = some (.cells #[u] 58 (0, 0)) := by rw [← HWA]; exact newIn wr _
 have hka : Kept (fun _ => False) wr wa := by rw [← HWA]; exact (Kept.refl _ wr).alloc _
 have ho2 := owns_kept ho hka (fun _ _ => id)
 obtain ⟨h2, hk, hlow⟩ := h.still hka
 have hu2 := strsIn_lasts _ _ _ (fun k => k < base ∨ (Value.slice ao xs.length ac).ownBlock = some k) (fun _ => False) _ _ hu hka (fun k _ hs => hs.elim) (fun k _ hx => hx)
 have hown := h2.own
 rw [zip_sets xs vs h2.len] at hown
 obtain ⟨a', c', w', hr', ho', k', hat, hst⟩ := append_stays_any (P := Tryz.prog) wa tt tt base 58 i0 _ 1 24 htt hi0 hz0 hz1 hz2 rfl (by omega) ao xs.length ac _ hown (some ⟨wr.heap.size, 0, none⟩) 1 1 [[u]] (rows_lit hbk rfl (by simp) rfl (by simp [maxLen])) (by simp) (by simpa using hu1) (by unfold maxLen; omega) (by omega) (Nat.le_trans hb hka.size)
 rw [HWA]
 have new : ∀ {y : List B} {z : Value}, StrsIn wa (fun k => k < base ∨ (Value.slice ao xs.length ac).ownBlock = some k) z y → StrsIn w' (fun k => k < base ∨ (Value.slice a' (xs.length + 1) c').ownBlock = some k) z y := fun hq =>
  ⟨RowsAt.kept hq.1 k' (fun k hk hs => (hq.2 k hk).1 (.inr hs)), fun k hk => ⟨fun hx => by
   rcases hx with hx | hx
   ·exact (hq.2 k hk).1 (.inl hx)
   ·rcases hat with h1 | ⟨g, h1, h3⟩
    ·rw [h1] at hx; exact (hq.2 k hk).1 (.inr hx)
    ·rw [h1] at hx; cases hx; have := (hq.2 k hk).2; omega, Nat.lt_of_lt_of_le (hq.2 k hk).2 k'.size⟩⟩
 refine ⟨a', c', w', hr', ⟨⟨by simp [h2.len], ?_, fun i y z hy hz => ?_⟩, hk.trans' k' (fun i hi hx => ?_), hlow⟩, ?_⟩
 ·rw [zip_sets _ _ (by simp [h2.len]), List.length_append]
  simpa using ho'
 ·by_cases hi : i < xs.length
  ·rw [List.getElem?_append_left hi] at hy
   rw [List.getElem?_append_left (by rw [h2.len]; exact hi)] at hz
   exact new (h2.nest i y z hy hz)
  ·have hi2 := (List.getElem?_eq_some_iff.1 hy).1
   simp at hi2
   have : i = xs.length := by omega
   subst this
   simp at hy
   rw [← h2.len] at hz
   simp at hz
   subst hy; subst hz
   exact new hu2
 ·have := (hown.lt i hx).1; omega
 ·rcases ho2.2 with ⟨hv, hn⟩ | ⟨g, cap, cur, hv, _⟩
  ·simp only [Value.slice.injEq] at hv
   obtain ⟨rfl, rfl, rfl⟩ := hv
   exact ⟨ho2.1, .inl ⟨rfl, rfl⟩⟩
  ·simp only [Value.slice.injEq] at hv
   obtain ⟨rfl, _, rfl⟩ := hv
   by_cases hsame : (Value.slice ao xs.length ac).ownBlock = some g
   ·rcases hown.2 with ⟨hv, _⟩ | ⟨g4, cap4, cur4, hv, _⟩
    ·rw [hv] at hsame; cases hsame
    ·simp only [Value.slice.injEq] at hv
     obtain ⟨rfl, _, rfl⟩ := hv
     simp only [Value.ownBlock, Option.some.injEq] at hsame
     subst hsame
     exact own_prefix (by omega) hown ho2 hm hst
   ·exact owns_kept ho2 k' (fun k hk hs => by
     simp only [Value.ownBlock, Option.some.injEq] at hk
     subst hk; exact hsame hs)
end Go.Proofs.YtplbdlgmjehckacGreatDoor

namespace Go.Proofs.YtplbdlgmjehckacGreatDoor
open Go.RowKit
set_option linter.unusedVariables false
set_option linter.unusedSimpArgs false
end Go.Proofs.YtplbdlgmjehckacGreatDoor

namespace Go.Proofs.YtplbdlgmjehckacGreatDoor
open Go.RowKit
set_option linter.unusedVariables false
set_option linter.unusedSimpArgs false
def keyOf (t : PTest) : B := if t.kind = 2 then className else if t.kind = 3 then idName else if t.kind = 4 ∨ t.kind = 5 then t.name else []
def kv (s : B) : Option Value := some (.string (str s))
def keyInt (n : B) (x2 x3 x4 x5 : Bool) (k : Int) : Option Value := if k = 2 then (if x2 then kv className else none) else if k = 3 then (if x3 then kv idName else none) else if k = 4 then (if x4 then kv n else none) else if k = 5 then (if x5 then kv n else none) else none
def keyMap (n : B) (x2 x3 x4 x5 : Bool) : Value → Option Value
 | .int .i64 k => keyInt n x2 x3 x4 x5 k
 | _ => none
def notBlank (c : UInt8) : Bool := !(c == 32)
def wordHit (x : B) : Bool → B → Bool
 | _, [] => false
 | st, c :: t => (st && !((c :: t).takeWhile notBlank).isEmpty && (c :: t).takeWhile notBlank == x) || wordHit x (c == 32) t
section
variable {ops : Array Oper} {o : Oper} {a : Act} {K : Act → World → Prop} {Q : Exit → Act → World → Prop} {E : Prop} {wa wc : World} {b : Nat} {n : B} {x2 x3 x4 x5 : Bool}
end
def startsAt (v : B) (j : Nat) : Bool := j == 0 || (v[j - 1]? == some 32)
end Go.Proofs.YtplbdlgmjehckacGreatDoor

namespace Go.Proofs.YtplbdlgmjehckacGreatDoor
open Go.RowKit
set_option linter.unusedVariables false
set_option linter.unusedSimpArgs false
end Go.Proofs.YtplbdlgmjehckacGreatDoor

namespace Go.Proofs.YtplbdlgmjehckacGreatDoor
open Go.RowKit
set_option linter.unusedVariables false
set_option linter.unusedSimpArgs false
def assocI (l : List (Int × Value)) : Value → Option Value
 | .int .i64 k => (l.find? fun x => x.1 == k).map (·.2)
 | _ => none
theorem assoc_push {l : List (Int × Value)} {k : Int} {v : Value} (h : ∀ x ∈ l, x.1 ≠ k) : assocI (l ++ [(k, v)]) (.int .i64 k) = some v := by
 show (((l ++ [(k, v)]).find? fun x => x.1 == k).map (·.2)) = some v
 rw [List.find?_append]
 have : l.find? (fun x => x.1 == k) = none := by
  rw [List.find?_eq_none]
  intro x hx
  simpa using h x hx
 rw [this]
 simp
theorem assoc_other {l : List (Int × Value)} {k : Int} {v : Value} : ∀ y, MapKept.IsKey (.int .i64) y → y ≠ .int .i64 k → assocI (l ++ [(k, v)]) y = assocI l y := by
 intro y hy hne
 cases y with
 | int q j =>
  have : q = .i64 := hy
  subst this
  have hj : ¬ k = j := fun e => hne (by rw [e])
  show (((l ++ [(k, v)]).find? fun x => x.1 == j).map (·.2)) = (l.find? fun x => x.1 == j).map (·.2)
  rw [List.find?_append]
  have : ([(k, v)] : List (Int × Value)).find? (fun x => x.1 == j) = none := by simp [hj]
  rw [this]
  simp
 | _ => exact absurd hy (by simp [MapKept.IsKey])
section
variable {P : Program} {mty kt et : TypeId}
theorem MapFn.push {w : World} {b : Nat} {l : List (Int × Value)} (h : MapFn (.int .i64) w b (assocI l)) (hm : P.underlying mty = some (.map kt et)) (hd : P.underlying kt = some (.int .i64)) (k : Int) (v : Value) (hk : ∀ x ∈ l, x.1 ≠ k) :
  ∃ w', (Instr.mapUpdate mty (.map (some b)) (.int .i64 k) v).run P w = .ok () w' ∧ MapFn (.int .i64) w' b (assocI (l ++ [(k, v)])) ∧ Kept (· = b) w w' := by
 obtain ⟨w', h1, h2, h3, _⟩ := h.update hm hd (k := .int .i64 k) (v := v) (by trivial) (assoc_push hk) assoc_other
 exact ⟨w', h1, h2, h3⟩
end
def wtList : List (Int × Value) := [(3, .int .i64 0), (2, .int .i64 1), (4, .int .i64 1), (5, .int .i64 1), (6, .int .i64 1), (1, .int .i64 2)]
theorem WLp.by_kept {w wr wx : World} {x : PWt} {n : Nat} (h : WLp w wr x n) (hk : Kept (fun _ => False) wr wx) : WLp w wx x n := ⟨hk.heap id h.at_, hk.heap id h.res, h.kept.trans hk, h.low⟩
end Go.Proofs.YtplbdlgmjehckacGreatDoor

namespace Go.Proofs.YtplbdlgmjehckacGreatDoor
open Go.RowKit
set_option linter.unusedVariables false
set_option linter.unusedSimpArgs false
end Go.Proofs.YtplbdlgmjehckacGreatDoor

namespace Go.Proofs.YtplbdlgmjehckacGreatDoor
open Go.RowKit
set_option linter.unusedVariables false
set_option linter.unusedSimpArgs false
end Go.Proofs.YtplbdlgmjehckacGreatDoor

namespace Go.Proofs.YtplbdlgmjehckacGreatDoor
open Go.RowKit
set_option linter.unusedVariables false
set_option linter.unusedSimpArgs false
structure WLoop (w wr : World) (base : Nat) (s : B) (l : Value) (ws : List B) (a i : Nat) : Prop where
 own : wr.ownsRow base 9 1 l ws.length (ws.map strCells).flatten
 kept : Kept (fun _ => False) w wr
 le : a ≤ i
 words : splitB s = ws ++ splitB (s.drop a)
 plain : ∀ j (hj : j < s.length), a ≤ j → j < i → s[j] ≠ 32
 few : ws.length ≤ i
theorem WLoop.form {w wr : World} {base : Nat} {s : B} {l : Value} {ws : List B} {a i : Nat} (h : WLoop w wr base s l ws a i) : ∃ vo vc, l = .slice vo ws.length vc := by
 rcases h.own.2 with ⟨h, hn⟩ | ⟨g, cap, cur, h, _⟩
 ·exact ⟨none, 0, by rw [h, hn]⟩
 ·exact ⟨_, cap, h⟩
end Go.Proofs.YtplbdlgmjehckacGreatDoor

namespace Go.Proofs.YtplbdlgmjehckacGreatDoor
open Go.RowKit
set_option linter.unusedVariables false
set_option linter.unusedSimpArgs false
def rpairV (a b : B) : Value := .agg #[.string (str a), .string (str b)]
def rpairCells (a b : B) : List Value := [.string (str a), .string (str b)]
def four : List B → Option (B × B × B × B)
 | [a] => some (a, a, a, a)
 | [a, b] => some (a, b, a, b)
 | [a, b, c] => some (a, b, c, b)
 | [a, b, c, d] => some (a, b, c, d)
 | _ => none
def edgesBlock (a b c d : B) : Array Value := #[.string (str edgeTop), .string (str a), .string (str edgeRight), .string (str b), .string (str edgeBottom), .string (str c), .string (str edgeLeft), .string (str d)]
structure QLoop (w wr : World) (base c d : Nat) (oc od : Obj) (l : Value) (n : Nat) (xs : List PDecl) (k : Nat) (X : List PDecl) : Prop where
 own : wr.ownsRow base 59 3 l (n + k) ((xs ++ X.take k).map declCells).flatten
 kept : Kept (fun _ => False) w wr
 bc : wr.heap[c]? = some oc
 bd : wr.heap[d]? = some od
 ne : l.ownBlock ≠ some c ∧ l.ownBlock ≠ some d
theorem QLoop.form {w wr : World} {base c d n k : Nat} {oc od : Obj} {l : Value} {xs X : List PDecl} (h : QLoop w wr base c d oc od l n xs k X) : ∃ vo vc, l = .slice vo (n + k) vc := by
 rcases h.own.2 with ⟨h, hn⟩ | ⟨g, cap, cur, h, _⟩
 ·exact ⟨none, 0, by rw [h, hn]⟩
 ·exact ⟨_, cap, h⟩
end Go.Proofs.YtplbdlgmjehckacGreatDoor

namespace Go.Proofs.YtplbdlgmjehckacGreatDoor
open Go.RowKit
set_option linter.unusedVariables false
set_option linter.unusedSimpArgs false
set_option maxRecDepth 100000 in
set_option maxHeartbeats 1600000 in
theorem rin_any (x : B) (ss : List B) (w : World) (v : Value) (hv : StrsAt w v ss) : Calls Tryz.prog 65 #[.string (str x), v] w fun e w' => e = .returned (.bool (ss.contains x)) ∧ w' = w := by
 obtain ⟨sa, sc, rfl, hsc1, hsc2⟩ := StrsAt.form hv
 unfold maxLen at hsc2
 have HV := Lib.hid hv
 clear hv
 go_enter Tryz.func65, Tryz.ntmps65
 go_wp2_with fail
 go_loopw [9] (fun c wr => ∃ i : Nat, i ≤ ss.length ∧ c = .int .i64 (i : Int) ∧ wr = w ∧ Hid ((ss.drop i).contains x = ss.contains x)) (fun c _ => ss.length - (intOf c).toNat)
 case atStart => exact ⟨0, by omega, rfl, rfl, Lib.hid rfl⟩
 case round =>
  obtain ⟨i, hi, rfl, rfl, HC⟩ := hrel
  by_cases hlt : i < ss.length
  ·have hx := List.getElem?_eq_getElem hlt
   have hdr := List.drop_eq_getElem_cons hlt
   generalize hgx : ss[i] = y at hx hdr
   clear hgx
   obtain ⟨b, off, rfl, g0⟩ := StrsAt.at HV.out hx
   have hc := HC.out
   rw [hdr, List.contains_cons] at hc
   cases hxy : (x == y) with
   | true =>
    have hyx : (y == x) = true := by rw [beq_iff_eq] at hxy ⊢; exact hxy.symm
    rw [hxy, Bool.true_or] at hc
    have HE := Lib.hid hc
    clear hc hx hdr
    go_wp2_with fail
    go_ret
    exact ⟨retb HE.out, rfl⟩
   | false =>
    have hyx : (y == x) = false := by rw [beq_eq_false_iff_ne] at hxy ⊢; exact fun h => hxy h.symm
    rw [hxy, Bool.false_or] at hc
    have HE := Lib.hid hc
    clear hc hx hdr
    go_wp2_with fail
    go_roundw
    case measure => simp [intOf]; omega
    case rel => exact ⟨i + 1, by omega, by go_num, (by first | rfl | trivial), HE⟩
  ·obtain rfl : i = ss.length := by omega
   have hc := HC.out
   rw [List.drop_length] at hc
   have HE := Lib.hid hc
   clear hc
   go_wp2_with fail
   go_ret
   exact ⟨retb HE.out, rfl⟩
def rTouch (ns : List PNode) (k : Int) (r : PRule) (name : B) : Bool := (mBest ns k r.sels).2 && ((pAll r.decls).getD []).any fun d => d.name == name
end Go.Proofs.YtplbdlgmjehckacGreatDoor

namespace Go.Proofs.YtplbdlgmjehckacGreatDoor
open Go.RowKit
set_option linter.unusedVariables false
set_option linter.unusedSimpArgs false
theorem SgW.copy {base : Nat} {w0 wr : World} {ao : Option Addr} {ac : Nat} {ss : List B} (h : SgW base w0 wr (.slice ao ss.length ac) ss) (hb : base ≤ wr.heap.size) {ns : List B} {ua : Option Addr} {uc n : Nat} (hu : StrsAt wr (.slice ua n uc) ns) (hn : n = ns.length) (hq : ss.length + n ≤ 4398100000000) :
  ∃ a' c' w', (Builtin.append_ #[58, 58] 58 #[.slice ao ss.length ac, .slice ua n uc]).run Tryz.prog wr = .ok (.slice a' (ss.length + n) c') w' ∧ SgW base w0 w' (.slice a' (ss.length + n) c') (ss ++ ns) ∧ Kept (fun k => (Value.slice ao ss.length ac).ownBlock = some k) wr w' := by
 obtain ⟨i0, hi0, hz0, hz1, hz2⟩ := info_parts info_str
 obtain ⟨h2, hk, hlow⟩ := h
 have hfl := flat1 ns
 obtain ⟨a', c', w', hr', ho', k', _⟩ := append_any (P := Tryz.prog) wr 58 58 base 9 i0 _ 1 16 Tryz.underlying58 hi0 hz0 hz1 hz2 rfl (by omega) ao ss.length ac _ h2 ua n uc (ns.map fun x => [Value.string (str x)]) hu (by intro r hr; obtain ⟨a, _, rfl⟩ := List.mem_map.1 hr; rfl) (by rw [hfl]; intro u hu; obtain ⟨a, _, rfl⟩ := List.mem_map.1 hu; rfl) (by unfold maxLen; omega) (by omega) hb
 refine ⟨a', c', w', hr', ⟨?_, hk.trans' k' (fun i hi hx => ?_), hlow⟩, k'⟩
 ·rw [List.length_append, List.map_append, List.flatten_append, ← hn]
  exact ho'
 ·have := (h2.lt i hx).1; omega
theorem SgW.empty {wr wa : World} (h : wr.alloc (.cells #[] 9 (0, 0)) = wa) : SgW wr.heap.size wr wa (.slice (some ⟨wr.heap.size, 0, none⟩) 0 0) [] := by
 subst h
 refine ⟨⟨by simp, .inr ⟨wr.heap.size, 0, #[], rfl, Nat.le_refl _, newIn wr _, Nat.le_refl _, by unfold maxLen; omega, by simp, by simp⟩⟩, (Kept.refl _ wr).alloc _, Nat.le_refl _⟩
theorem SsW.start {w wa : World} (h : w.alloc (.cells #[.slice none 0 0] 58 (0, 0)) = wa) : SsW w.heap.size w wa (.slice (some ⟨w.heap.size, 0, none⟩) 1 1) [[]] [.slice none 0 0] := by
 subst h
 refine ⟨⟨rfl, ⟨by simp [setCells], .inr ⟨w.heap.size, 1, #[.slice none 0 0], rfl, Nat.le_refl _, newIn w _, Nat.le_refl _, by simp [maxLen], by simp, by simp [setCells]⟩⟩, fun i x u hx hu => ?_⟩, (Kept.refl _ w).alloc _, Nat.le_refl _⟩
 match i with
 | 0 =>
  cases hx; cases hu
  exact ⟨RowsAt.nil _ _, fun k hk => by cases hk⟩
 | i + 1 => simp at hx
theorem SsW.form {base : Nat} {w0 wr : World} {v : Value} {xs : List (List B)} {vs : List Value} (h : SsW base w0 wr v xs vs) : ∃ ao ac, v = .slice ao xs.length ac := h.nest.form
set_option maxRecDepth 100000 in
set_option maxHeartbeats 6400000 in
theorem sets_any (rules : List PRule) (hmost : rules.length ≤ 60) (w : World) (rv : Value) (hr : RulesAt w rv rules) :
  Calls Tryz.prog 26 #[rv] w fun e w' => ∃ v X, e = .returned v ∧ Kept (fun _ => False) w w' ∧ SetsIn w' X v (gsets (mnames rules)) := by
 obtain ⟨ra, rcap, rfl, hrc1, hrc2⟩ := NestAt.form hr
 unfold maxLen at hrc2
 have HRS := Lib.hid hr
 clear hr
 go_enter Tryz.func26, Tryz.ntmps26
 go_upto_block 0 with fail
 go_cut [3] (fun v wx => Hid (SgW w.heap.size w wx v (mnames rules)))
 case first =>
  go_wp2_with fail
  go_loopw [3, 13] (fun v c wr => ∃ i : Nat, i ≤ rules.length ∧ c = .int .i64 (i : Int) ∧ Hid (SgW w.heap.size w wr v (mnames (rules.take i)))) (fun _ c _ => rules.length - (intOf c).toNat)
  case atStart => exact ⟨0, by omega, rfl, Lib.hid (SgW.start w)⟩
  case round =>
   obtain ⟨i, hi, rfl, HS⟩ := hrel
   obtain ⟨wr0, hwr0⟩ : ∃ x, x = wr := ⟨_, rfl⟩
   subst hwr0
   have hn8 := mnames_len (rules.take i)
   obtain ⟨ns, HNS⟩ : ∃ x, Hid (mnames (rules.take i) = x) := ⟨_, Lib.hid rfl⟩
   rw [HNS.out] at HS hn8
   obtain ⟨ao, ac, rfl⟩ := HS.out.form
   by_cases hlt : i < rules.length
   ·have hx := List.getElem?_eq_getElem hlt
    generalize hgx : rules[i] = r at hx
    clear hgx
    have hnx : Hid (mnames (rules.take (i + 1)) = mname1 ns r) := Lib.hid (by rw [mnames_take hx, HNS.out])
    obtain ⟨rb, ro, u, rfl, hcs, sv, dv, rfl, hss, hds⟩ := NestAt.at (rules_firm.kept HRS.out HS.out.kept) hx
    obtain ⟨sa, sc, rfl, hsc1, hsc2⟩ := NestAt.form hss
    obtain ⟨da, dc, rfl, hdc1, hdc2⟩ := DeclsAt.form hds
    have r0 : wr0.cell? ⟨rb, ro + i * 5, none⟩ = some (.string (str r.media)) := hcs 0 _ rfl
    have r1 : wr0.cell? ⟨rb, ro + i * 5 + 1, none⟩ = some (.slice sa r.sels.length sc) := hcs 1 _ rfl
    have r2 : wr0.cell? ⟨rb, ro + i * 5 + 2, none⟩ = some (.slice da r.decls.length dc) := hcs 2 _ rfl
    have r3 : wr0.cell? ⟨rb, ro + i * 5 + 3, none⟩ = some (.int .i64 r.lo) := hcs 3 _ rfl
    have r4 : wr0.cell? ⟨rb, ro + i * 5 + 4, none⟩ = some (.int .i64 r.hi) := hcs 4 _ rfl
    obtain ⟨wz, HWZ⟩ : ∃ z, Hid (wr0.alloc (.cells #[.string (str r.media), .slice sa r.sels.length sc, .slice da r.decls.length dc, .int .i64 r.lo, .int .i64 r.hi] 42 (0, 0)) = z) := ⟨_, Lib.hid rfl⟩
    obtain ⟨zk, HZK⟩ : ∃ z, Hid (wr0.heap.size = z) := ⟨_, Lib.hid rfl⟩
    have hzb : wz.heap[zk]? = some (.cells #[.string (str r.media), .slice sa r.sels.length sc, .slice da r.decls.length dc, .int .i64 r.lo, .int .i64 r.hi] 42 (0, 0)) := by rw [← HWZ.out, ← HZK.out]; exact newIn wr0 _
    have HSZ : Hid (SgW w.heap.size w wz (.slice ao ns.length ac) ns) := Lib.hid (HS.out.still (by rw [← HWZ.out]; exact (Kept.refl _ wr0).alloc _))
    have hwz : w.heap.size ≤ wz.heap.size := HSZ.out.kept.size
    clear hcs hss hds hx
    go_upto_region 5 with fail
    rw [HWZ.out, HZK.out]
    clear r0 r1 r2 r3 r4
    have z0 := cellIn hzb 0 rfl
    clear hzb
    have HIN := Lib.hid (rin_any r.media ns wz _ HSZ.out.reads)
    cases hme : r.media.isEmpty with
    | true =>
     have hn2 : Hid (mnames (rules.take (i + 1)) = ns) := Lib.hid (by rw [hnx.out]; unfold mname1; rw [hme]; rfl)
     go_wp2_with fail
     go_roundw
     case measure => simp [intOf]; omega
     case rel => exact ⟨i + 1, by omega, by go_num, Lib.hid (by rw [hn2.out]; exact HSZ.out)⟩
    | false =>
     obtain ⟨cb, HCB⟩ : ∃ x, Hid (ns.contains r.media = x) := ⟨_, Lib.hid rfl⟩
     have hin := HIN.out
     rw [HCB.out] at hin
     have HIN2 := Lib.hid hin
     clear hin
     go_wp2_with fail
     refine HIN2.out.mono ?_
     rintro e w2 ⟨rfl, rfl⟩
     cases cb with
     | true =>
      have hn2 : Hid (mnames (rules.take (i + 1)) = ns) := Lib.hid (by rw [hnx.out]; unfold mname1; rw [hme, HCB.out]; rfl)
      go_wp2_with fail
      go_roundw
      case measure => simp [intOf]; omega
      case rel => exact ⟨i + 1, by omega, by go_num, Lib.hid (by rw [hn2.out]; exact HSZ.out)⟩
     | false =>
      by_cases h8 : ns.length < 8
      ·have h8I : (ns.length : Int) < 8 := by omega
       have hn2 : Hid (mnames (rules.take (i + 1)) = ns ++ [r.media]) := Lib.hid (by rw [hnx.out]; unfold mname1; rw [hme, HCB.out, if_pos (by simp [h8])])
       obtain ⟨a', c', w', hrun, hsg, hkp⟩ := HSZ.out.push hwz [r.media] 1 rfl (by omega) #[.string (str r.media)] rfl (by omega)
       have HRUN := Lib.hid hrun
       have HSG := Lib.hid hsg
       clear hrun hsg hkp
       go_wp2_with (at_builtin; refine wpList_append_eq (by rfl) _ _ _ rfl _ _ _ rfl rfl _ HRUN.out ?_)
       go_roundw
       case measure => simp [intOf]; omega
       case rel => exact ⟨i + 1, by omega, by go_num, Lib.hid (by rw [hn2.out]; exact HSG.out)⟩
      ·have h8I : ¬ (ns.length : Int) < 8 := by omega
       have hn2 : Hid (mnames (rules.take (i + 1)) = ns) := Lib.hid (by rw [hnx.out]; unfold mname1; rw [hme, HCB.out, if_neg (by simp [h8])])
       go_wp2_with fail
       go_roundw
       case measure => simp [intOf]; omega
       case rel => exact ⟨i + 1, by omega, by go_num, Lib.hid (by rw [hn2.out]; exact HSZ.out)⟩
   ·obtain rfl : i = rules.length := by omega
    have hfin : Hid (SgW w.heap.size w wr0 (.slice ao ns.length ac) (mnames rules)) := Lib.hid (by
     have := HNS.out
     rw [List.take_length] at this
     rw [this]; exact HS.out)
    go_wp2_with fail
    go_meet
    case rel => exact hfin
 case rest =>
  have HS := Lib.hid hcut.out
  obtain ⟨w1, hw1⟩ : ∃ x, x = wc := ⟨_, rfl⟩
  subst hw1
  clear hcut
  have hn8 := mnames_len rules
  obtain ⟨ns, HNS⟩ : ∃ x, Hid (mnames rules = x) := ⟨_, Lib.hid rfl⟩
  rw [HNS.out] at HS hn8
  obtain ⟨ao, ac, rfl⟩ := HS.out.form
  have HKW : Hid (Kept (fun _ => False) w w1) := Lib.hid HS.out.kept
  have HNR : Hid (StrsAt w1 (.slice ao ns.length ac) ns) := Lib.hid HS.out.reads
  obtain ⟨w2, HW2⟩ : ∃ z, Hid (w1.alloc (.cells #[.slice none 0 0] 58 (0, 0)) = z) := ⟨_, Lib.hid rfl⟩
  obtain ⟨bb, HBB⟩ : ∃ z, Hid (w1.heap.size = z) := ⟨_, Lib.hid rfl⟩
  have HSS : Hid (SsW bb w1 w2 (.slice (some ⟨bb, 0, none⟩) 1 1) [[]] [.slice none 0 0]) := Lib.hid (by rw [← HBB.out]; exact SsW.start HW2.out)
  go_upto_region 9 with fail
  rw [HW2.out, HBB.out]
  go_upto_block 2 with fail
  go_cut [6] (fun v wx => ∃ vs, Hid (SsW bb w1 wx v (gsets ns) vs))
  case rest =>
   obtain ⟨vs, HF⟩ := hcut
   go_wp2_with fail
   go_ret
   exact ⟨_, _, rfl, HKW.out.trans HF.out.kept, by rw [HNS.out]; exact HF.out.nest.done setCells_len strsIn_lasts⟩
  case first =>
   go_wp2_with fail
   go_loopw [6, 41] (fun v c wr => ∃ (i : Nat) (vs : List Value), i ≤ ns.length ∧ c = .int .i64 (i : Int) ∧ Hid (SsW bb w1 wr v (gsets (ns.take i)) vs)) (fun _ c _ => ns.length - (intOf c).toNat)
   case atStart => exact ⟨0, _, by omega, rfl, HSS⟩
   case round =>
    obtain ⟨i, vs, hi, rfl, HO⟩ := hrel
    obtain ⟨wr0, hwr0⟩ : ∃ x, x = wr := ⟨_, rfl⟩
    subst hwr0
    by_cases hlt : i < ns.length
    ·have hx := List.getElem?_eq_getElem hlt
     generalize hgx : ns[i] = nm at hx
     clear hgx
     have hnx : Hid (gsets (ns.take (i + 1)) = gset1 (gsets (ns.take i)) nm) := Lib.hid (gsets_take hx)
     have hlen : (gsets (ns.take i)).length ≤ 256 := gsets_le (by rw [List.length_take]; omega)
     have heach : ∀ s ∈ gsets (ns.take i), s.length ≤ 8 := fun s hs => by
      have := gsets_each hs
      rw [List.length_take] at this; omega
     obtain ⟨out, HOUT⟩ : ∃ x, Hid (gsets (ns.take i) = x) := ⟨_, Lib.hid rfl⟩
     rw [HOUT.out] at HO hlen hnx heach
     have HEACH := Lib.hid heach
     obtain ⟨oa, oc, rfl⟩ := HO.out.form
     obtain ⟨nb, no, rfl, g0⟩ := StrsAt.at (strs_firm.kept HNR.out HO.out.kept) hx
     have hown0 := HO.out.nest.own
     rw [zip_sets out vs HO.out.nest.len] at hown0
     have HOW := Lib.hid hown0
     have HVL : Hid (vs.length = out.length) := Lib.hid HO.out.nest.len
     clear hx hown0 heach
     go_wp2_with fail
     clear g0
     go_loopw [6, 47] (fun v c wx => ∃ (j : Nat) (us : List Value), j ≤ out.length ∧ c = .int .i64 (j : Int) ∧ Hid (SsW bb w1 wx v (gpart out nm j) (vs ++ us)) ∧ Hid (wx.ownsRow bb 58 1 (.slice oa out.length oc) out.length vs)) (fun _ c _ => out.length - (intOf c).toNat)
     case atStart => exact ⟨0, [], by omega, rfl, Lib.hid (by rw [gpart_zero, List.append_nil]; exact HO.out), HOW⟩
     case round =>
      obtain ⟨j, us, hj, rfl, HI, HE⟩ := hrel
      obtain ⟨wx0, hwx0⟩ : ∃ x, x = wr := ⟨_, rfl⟩
      subst hwx0
      obtain ⟨ia, ic, rfl⟩ := HI.out.form
      have hpl := gpart_len out nm hj
      by_cases hjl : j < out.length
      ·have hy := List.getElem?_eq_getElem hjl
       generalize hgy : out[j] = s at hy
       clear hgy
       have hs8 : s.length ≤ 8 := HEACH.out s (List.mem_of_getElem? hy)
       have hnx2 : Hid (gpart out nm (j + 1) = gpart out nm j ++ [s ++ [nm]]) := Lib.hid (gpart_succ hy)
       obtain ⟨g, u, hge, hgc, hgu⟩ := sets_old (xs := out) (ys := (out.take j).map fun s => s ++ [nm]) HI.out.nest HVL.out HE.out hy
       subst hge
       obtain ⟨ua, uc, rfl, huc1, huc2⟩ := StrsAt.form hgu.1
       unfold maxLen at huc2
       have HU : Hid (StrsAt wx0 (.slice ua s.length uc) s) := Lib.hid hgu.1
       have hkI := HI.out.kept
       have hbx : bb ≤ wx0.heap.size := by rw [← HBB.out]; exact hkI.size
       obtain ⟨wA, HWA⟩ : ∃ z, Hid (wx0.alloc (.cells #[] 9 (0, 0)) = z) := ⟨_, Lib.hid rfl⟩
       have hsgA := SgW.empty HWA.out
       have hkA : Kept (fun _ => False) wx0 wA := hsgA.kept
       obtain ⟨aB, cB, wB, hrB, hsgB, hkB⟩ := SgW.copy (ss := []) (n := s.length) hsgA hkA.size (strs_firm.kept HU.out hkA) rfl (by rw [List.length_nil]; omega)
       simp only [List.length_nil, Nat.zero_add, List.nil_append] at hrB hsgB
       obtain ⟨aC, cC, wC, hrC, hsgC, hkC⟩ := hsgB.push hsgB.kept.size [nm] 1 rfl (by omega) #[.string (str nm)] rfl (by omega)
       have hgt : ∀ k, (Value.slice aC (s.length + 1) cC).ownBlock = some k → wx0.heap.size ≤ k ∧ k < wC.heap.size := fun k hk => by
        have := hsgC.own.lt k hk; omega
       have hSS := HI.out.still hsgC.kept
       have hEE := owns_kept HE.out hsgC.kept (fun _ _ => id)
       have hil : ∀ k, (Value.slice ia (gpart out nm j).length ic).ownBlock = some k → k < wx0.heap.size := fun k hk => (HI.out.nest.own.lt k hk).2
       obtain ⟨aD, cD, wD, hrD, hsD, hoD⟩ := hSS.push 60 Tryz.underlying60 (by have := hsgC.kept.size; omega) (x := s ++ [nm]) (u := .slice aC (s.length + 1) cC)
        ⟨hsgC.reads, fun k hk => ⟨fun hx => by
         have h1 := hgt k hk
         rcases hx with hx | hx
         ·omega
         ·have := hil k hx; omega, (hgt k hk).2⟩⟩ rfl (by omega) hEE (by omega) (by rw [HBB.out]; exact Nat.le_refl _)
       have HRB := Lib.hid hrB
       have HRC := Lib.hid hrC
       have HRD := Lib.hid hrD
       have HSD := Lib.hid hsD
       have HOD := Lib.hid hoD
       clear hrB hrC hrD hsD hoD hsgA hsgB hsgC hkA hkB hkC hgt hSS hEE hil hgu hkI
       go_upto_region 15 with fail
       clear hgc
       rw [hpl] at HRD HSD ⊢
       go_wp2_with (at_builtin; first
        | (refine wpList_append_eq (by rfl) _ _ _ rfl _ _ _ rfl rfl _ HRD.out ?_)
        | (refine wpList_append_eq (by rfl) _ _ _ rfl _ _ _ rfl rfl _ HRC.out ?_)
        | (rw [HWA.out]; refine wpList_append_eq (by rfl) _ _ _ rfl _ _ _ rfl rfl _ HRB.out ?_))
       go_roundw
       case measure => simp [intOf]; omega
       case rel => exact ⟨j + 1, us ++ [.slice aC (s.length + 1) cC], by omega, by go_num, Lib.hid (by rw [hnx2.out, ← List.append_assoc]; exact HSD.out), HOD⟩
      ·obtain rfl : j = out.length := by omega
       have hfin : Hid (SsW bb w1 wx0 (.slice ia (gpart out nm out.length).length ic) (gsets (ns.take (i + 1))) (vs ++ us)) := Lib.hid (by rw [hnx.out, ← gpart_end]; exact HI.out)
       go_wp2_with fail
       go_roundw
       case measure => simp [intOf]; omega
       case rel => exact ⟨i + 1, _, by omega, by go_num, hfin⟩
    ·obtain rfl : i = ns.length := by omega
     have hfin : Hid (SsW bb w1 wr0 _ (gsets ns) vs) := Lib.hid (by
      have := HO.out
      rw [List.take_length] at this
      exact this)
     go_wp2_with fail
     go_meet
     case rel => exact ⟨vs, hfin⟩
end Go.Proofs.YtplbdlgmjehckacGreatDoor

namespace Go.Proofs.YtplbdlgmjehckacGreatDoor
open Go.RowKit Go.ChangeShapes Go.WideShapes Go.ChangeAt Go.ChangeMaps
theorem own : ownKnob Tryz.prog.godebug = none := by kernel_rfl
theorem laidOut : laidOutB Tryz.prog = true := by kernel_rfl
theorem maxLen_room (W : World) (hsh : W.ShapedOpen Tryz.prog) : ∃ m, W.cell? ⟨0, 0, none⟩ = some (.int .i64 m) :=
 cell_of_shapedOpen_int (zero := #[.int .i64 0]) (t := 3) hsh (of_decide_eq_true (by kernel_rfl)) (by kernel_rfl) rfl (by kernel_rfl) (by kernel_rfl) Tryz.underlying3
def u8Cell (n : Nat) : Value := .int .u8 (n : Int)
def acceptCells : Array Value := (List.map u8Cell [128, 191, 160, 191, 128, 159, 144, 191, 128, 143, 0, 0, 0, 0, 0, 0, 0, 0, 0, 0, 0, 0, 0, 0, 0, 0, 0, 0, 0, 0, 0, 0]).toArray
def firstCells : Array Value := (List.map u8Cell Go.Pinned.utf8FirstZ).toArray
def laidIn (cs : Array Value) : Obj → Obj
 | .cells _ t frozen => .cells cs t frozen
 | o => o
noncomputable def laidWorld (os : Os) : World :=
 { World.holding Tryz.prog os ⟨#[], #[], []⟩ with heap := ((World.holding Tryz.prog os ⟨#[], #[], []⟩).heap.modify 1 (laidIn firstCells)).modify 2 (laidIn acceptCells) }
theorem bulk_bound {H : Type} {ds : List (DataW H)} (hk : Rows.uptoSmall H ds = true) : Rows.uptoBulkAll ds ≤ 1048576 := of_decide_eq_true hk
end Go.Proofs.YtplbdlgmjehckacGreatDoor

