/-
  Lemmas for the claims of this seat: the program's functions walked, and plain laws. In this order: CaCore.
-/
import Derived.Test.YtplbdlgmjehckadGreatDoorPk13
import Derived.Maps.Range
import Derived.Test.YtplbdlgmjehckadGreatDoorPk4
import Derived.Test.YtplbdlgmjehckadGreatDoorPk9
import Derived.Test.YtplbdlgmjehckadGreatDoorSort
import Derived.Test.YtplbdlgmjehckadGreatDoorShelf
import Derived.Shelf.SlSortCmp.WholeK
import Derived.Shelf.SlSortCmp.NoneTotal
import Derived.Deep.Light
import Derived.Deep.QuietTactic
import Derived.Test.YtplbdlgmjehckadGreatDoorPk17
import Derived.Deep.RegionHeld3
import Derived.Test.YtplbdlgmjehckadGreatDoorPk16
import Derived.Carry
namespace Go.Proofs.YtplbdlgmjehckadGreatDoor
open Go.RowKit
set_option linter.unusedVariables false
set_option linter.unusedSimpArgs false
theorem filter_erase {l : List MapEntry} (h : (l.map (·.born)).Nodup) : ∀ {i : Nat} {e : MapEntry}, l[i]? = some e → l.filter (fun x => !(x.born == e.born)) = l.eraseIdx i := by
  induction l with
  | nil => intro i e hi; simp at hi
  | cons a l ih =>
    intro i e hi
    rw [List.map_cons, List.nodup_cons] at h
    cases i with
    | zero =>
      simp only [List.getElem?_cons_zero, Option.some.injEq] at hi
      subst hi
      simp only [List.filter_cons, beq_self_eq_true, Bool.not_true, Bool.false_eq_true, if_false, List.eraseIdx_cons_zero]
      rw [List.filter_eq_self]
      intro x hx
      have : x.born ≠ a.born := fun e => h.1 (by rw [← e]; exact List.mem_map.2 ⟨x, hx, rfl⟩)
      simp [this]
    | succ i =>
      simp only [List.getElem?_cons_succ] at hi
      have hne : a.born ≠ e.born := fun e' => h.1 (by rw [e']; exact List.mem_map.2 ⟨e, List.mem_of_getElem? hi, rfl⟩)
      have hb : (a.born == e.born) = false := by simpa using hne
      simp only [List.filter_cons, hb, Bool.not_false, if_true, List.eraseIdx_cons_succ, ih h.2 hi]
theorem left_next {es : Array MapEntry} {seen : Array Nat} {i : Nat} {e : MapEntry} (hn : (es.toList.map (·.born)).Nodup) (hi : (leftOf es seen).toList[i]? = some e) : (leftOf es (seen.push e.born)).toList = (leftOf es seen).toList.eraseIdx i := by
  have h1 : (leftOf es (seen.push e.born)).toList = (leftOf es seen).toList.filter (fun x => !(x.born == e.born)) := by
    unfold leftOf
    simp only [Array.toList_filter, List.filter_filter]
    apply List.filter_congr
    intro x _
    simp only [Array.contains_push]
    cases seen.contains x.born <;> cases h : x.born == e.born <;> simp_all
  rw [h1]
  refine filter_erase ?_ hi
  unfold leftOf
  rw [Array.toList_filter]
  exact (List.filter_sublist.map _).nodup hn
structure Ranging {α : Type} (enc : α → Value × Value) (w : World) (b r : Nat) (L : List α) : Prop where
  ex : ∃ es clock since seen c0, w.heap[b]? = some (.map es clock) ∧ MapKept.Stamped es clock ∧ w.heap[r]? = some (.mapIter (some b) since seen c0) ∧ (∀ x ∈ es.toList, x.born < since) ∧ since ≤ c0 ∧ since ≤ clock ∧ (leftOf es seen).toList.map (fun e => (e.key, e.val)) = L.map enc
theorem Ranging.kept {α : Type} {enc : α → Value × Value} {S : Nat → Prop} {w w' : World} {b r : Nat} {L : List α} (h : Ranging enc w b r L) (hk : Kept S w w') (hb : ¬ S b) (hr : ¬ S r) : Ranging enc w' b r L := by
  obtain ⟨es, clock, since, seen, c0, h1, h2, h3, h4⟩ := h.ex
  exact ⟨⟨es, clock, since, seen, c0, hk.heap hb h1, h2, hk.heap hr h3, h4⟩⟩
theorem Ranging.left_len {α : Type} {enc : α → Value × Value} {w : World} {b r : Nat} {L : List α} (h : Ranging enc w b r L) : w.rangeLeft b r = L.length := by
  obtain ⟨es, clock, since, seen, c0, h1, h2, h3, h4, h5, h6, h7⟩ := h.ex
  simp only [World.rangeLeft, h1, h3]
  have := congrArg List.length h7
  simpa using this
theorem eraseIdx_map {α β : Type} (f : α → β) : ∀ (l : List α) (j : Nat), (l.eraseIdx j).map f = (l.map f).eraseIdx j
  | [], _ => by simp
  | _ :: _, 0 => by simp
  | a :: l, j + 1 => by simp [eraseIdx_map f l j]
theorem erase_perm {α : Type} : ∀ {l : List α} {j : Nat} {x : α}, l[j]? = some x → l.Perm (x :: l.eraseIdx j)
  | [], _, _, h => by simp at h
  | a :: l, 0, x, h => by simp at h; subst h; simp
  | a :: l, j + 1, x, h => by
    simp only [List.getElem?_cons_succ] at h
    simp only [List.eraseIdx_cons_succ]
    exact ((erase_perm h).cons a).trans (.swap x a _)
section
variable {P : Program} {mty kt et : TypeId} {kind : TypeDesc} {α : Type} {enc : α → Value × Value}
theorem Ranging.start {w : World} {b : Nat} {f : Value → Option Value} (h : MapFn kind w b f) (hm : P.underlying mty = some (.map kt et)) (L0 : List (Value × Value) → List α) (hL : ∀ es : Array MapEntry, (∀ x ∈ es.toList, MapKept.IsKey kind x.key ∧ f x.key = some x.val) → (L0 (es.toList.map fun e => (e.key, e.val))).map enc = es.toList.map fun e => (e.key, e.val)) :
    ∃ w' l, (Instr.range mty (.map (some b))).run P w = .ok (.pointer (some ⟨w.heap.size, 0, none⟩)) w' ∧ Ranging enc w' b w.heap.size (L0 l) ∧ (L0 l).map enc = l ∧ (l.map (·.1)).Nodup ∧ (∀ k v, MapKept.IsKey kind k → (f k = some v ↔ (k, v) ∈ l)) ∧ (∀ x ∈ l, MapKept.IsKey kind x.1) ∧ Kept (fun _ => False) w w' ∧ w'.heap.size = w.heap.size + 1 := by
  obtain ⟨es, c, h1, h2, h3, h4⟩ := h.ex
  have hl := hL es (fun x hx => ⟨h2 x hx, (h4 x.key (h2 x hx) x.val).2 ⟨x, hx, rfl, rfl⟩⟩)
  refine ⟨_, es.toList.map fun e => (e.key, e.val), run_range_map w mty kt et b es c hm h1, ⟨es, c, c, #[], c, (heap_alloc_old w _ (ltIn h1)).trans h1, h3, newIn w _, h3.1, Nat.le_refl _, Nat.le_refl _, ?_⟩, hl, ?_, ?_, ?_, (Kept.refl _ w).alloc _, by simp⟩
  · rw [hl]
    unfold leftOf
    rw [Array.toList_filter, List.filter_eq_self.2 (by simp)]
  · have := h3.2.2
    rw [List.map_map]; exact this
  · intro k v hk
    rw [h4 k hk v, List.mem_map]
    constructor
    · rintro ⟨x, hx, rfl, rfl⟩; exact ⟨x, hx, rfl⟩
    · rintro ⟨x, hx, e⟩; cases e; exact ⟨x, hx, rfl, rfl⟩
  · intro x hx
    obtain ⟨y, hy, rfl⟩ := List.mem_map.1 hx
    exact h2 y hy
theorem Ranging.next {w : World} {b r : Nat} {L : List α} (h : Ranging enc w b r L) (ty : TypeId) :
    (L = [] ∧ (Instr.next (.pointer (some ⟨r, 0, none⟩)) false ty).run P w = .ok (.tuple #[.bool false]) w) ∨
    ∃ x L' w', L.Perm (x :: L') ∧ (Instr.next (.pointer (some ⟨r, 0, none⟩)) false ty).run P w = .ok (.tuple #[.bool true, (enc x).1, (enc x).2]) w' ∧ Ranging enc w' b r L' ∧ Kept (· = r) w w' ∧ w'.heap.size = w.heap.size ∧
      (Instr.entry (.pointer (some ⟨r, 0, none⟩))).run P w' = .ok (.tuple #[(enc x).1, (enc x).2]) w' := by
  obtain ⟨es, clock, since, seen, c0, h1, h2, h3, h4, h5, h6, h7⟩ := h.ex
  have hrb : r ≠ b := by intro e; rw [e, h1] at h3; cases h3
  rcases run_next_at (P := P) w ty r b since c0 seen es clock h3 h1 h4 h5 with ⟨g1, g2⟩ | ⟨e, he, w1, hw1, g2⟩
  · left
    have : (leftOf es seen).toList = [] := by
      have : (leftOf es seen) = #[] := Array.eq_empty_of_size_eq_zero g1
      rw [this]
    rw [this] at h7
    exact ⟨by simpa using h7.symm, g2⟩
  · right
    obtain ⟨i, hi⟩ := List.mem_iff_getElem?.1 he
    have hli : ((leftOf es seen).toList.map (fun e => (e.key, e.val)))[i]? = some (e.key, e.val) := by rw [List.getElem?_map, hi]; rfl
    rw [h7, List.getElem?_map, Option.map_eq_some_iff] at hli
    obtain ⟨x, hx, hxe⟩ := hli
    have h1' : w1.heap[b]? = some (.map es clock) := by rcases hw1 with rfl | rfl <;> exact h1
    have h3' : w1.heap[r]? = some (.mapIter (some b) since seen c0) := by rcases hw1 with rfl | rfl <;> exact h3
    have hkw : Kept (fun _ => False) w w1 := by
      rcases hw1 with rfl | rfl
      · exact Kept.refl _ _
      · exact (Kept.refl _ w).drew
    have hb2 : (Go.ChangeMaps.setBlock w1 r (.mapIter (some b) since (seen.push e.born) clock)).heap[b]? = some (.map es clock) := by
      show (w1.heap.setIfInBounds r _)[b]? = _
      rw [(MapKept.heap_set h3').2 b (fun h => hrb h.symm)]; exact h1'
    have hr2 : (Go.ChangeMaps.setBlock w1 r (.mapIter (some b) since (seen.push e.born) clock)).heap[r]? = some (.mapIter (some b) since (seen.push e.born) clock) := (MapKept.heap_set h3').1
    have hmem : e ∈ es.toList := by
      unfold leftOf at he
      rw [Array.toList_filter] at he
      exact (List.mem_filter.1 he).1
    refine ⟨x, L.eraseIdx i, _, erase_perm hx, by rw [hxe]; exact g2, ⟨es, clock, since, seen.push e.born, clock, hb2, h2, hr2, h4, h6, h6, ?_⟩, (hkw.mono (fun _ _ h => h.elim)).trans (kept_setHeap _), ?_, ?_⟩
    · rw [left_next h2.2.1 hi, eraseIdx_map, eraseIdx_map, h7]
    · show (w1.heap.setIfInBounds r _).size = _
      rw [Array.size_setIfInBounds]
      rcases hw1 with rfl | rfl <;> rfl
    · rw [hxe]
      exact run_entry_at _ r b since seen es clock e hr2 hb2 hmem h2.2.1
end
end Go.Proofs.YtplbdlgmjehckadGreatDoor
namespace Go.Proofs.YtplbdlgmjehckadGreatDoor
open Go.RowKit
set_option linter.unusedVariables false
set_option linter.unusedSimpArgs false
def cmpB (x y : B) : Int := if bLt x y = true then -1 else if bLt y x = true then 1 else 0
theorem nan_str (x : B) (w : World) : Calls Tryz.prog 83 #[.string (str x)] w fun e w' => e = .returned (.bool false) ∧ w' = w := by
  go_enter Tryz.func83, Tryz.ntmps83
  go_wp2_with fail
  go_ret
  exact ⟨rfl, rfl⟩
theorem less_bLt : ∀ x y : B, Op.bytesLess x y = bLt x y
  | [], [] => rfl
  | [], _ :: _ => rfl
  | _ :: _, [] => rfl
  | a :: x, b :: y => by
    have ih := less_bLt x y
    simp only [Op.bytesLess, bLt, ih]
    by_cases h : a.toNat < b.toNat
    · have h' : a < b := by rw [UInt8.lt_iff_toNat_lt]; exact h
      simp [h, h']
    · have h' : ¬ a < b := by rw [UInt8.lt_iff_toNat_lt]; exact h
      by_cases e : a = b
      · subst e; simp
      · have e' : ¬ a.toNat = b.toNat := fun h => e (UInt8.toNat_inj.1 h)
        simp [h, h', e, e']
theorem cmpB_eq (x y : B) : cmpB x y = if Op.bytesLess x y = true then -1 else if (x == y) = true then 0 else 1 := by
  unfold cmpB
  rw [less_bLt]
  split
  · rfl
  · rename_i h
    by_cases e : x = y
    · subst e; simp [bLt_irrefl]
    · have : bLt y x = true := by
        cases hh : bLt y x with
        | true => rfl
        | false => exact absurd (bLt_total (by simpa using h) hh) e
      simp [this, e]
theorem compare_str (x y : B) (w : World) : Calls Tryz.prog 50 #[.string (str x), .string (str y)] w fun e w' => e = .returned (.int .i64 (cmpB x y)) ∧ w' = w := by
  obtain ⟨r, HR⟩ : ∃ r, Hid (cmpB x y = r) := ⟨_, rfl⟩
  have HE := Lib.hid (cmpB_eq x y)
  rw [HR.out]
  cases h1 : Op.bytesLess x y with
  | true =>
    have hr : Hid (-1 = r) := Lib.hid (by rw [← HR.out, HE.out, h1]; rfl)
    go_enter Tryz.func50, Tryz.ntmps50
    go_wp2_with (go_at_call 83; refine (nan_str _ _).mono ?_; rintro e w' ⟨rfl, rfl⟩)
    go_ret
    exact ⟨reti hr.out, rfl⟩
  | false =>
    cases h2 : (x == y) with
    | true =>
      have hr : Hid (0 = r) := Lib.hid (by rw [← HR.out, HE.out, h1, h2]; rfl)
      go_enter Tryz.func50, Tryz.ntmps50
      go_wp2_with (go_at_call 83; refine (nan_str _ _).mono ?_; rintro e w' ⟨rfl, rfl⟩)
      go_ret
      exact ⟨reti hr.out, rfl⟩
    | false =>
      have hr : Hid (1 = r) := Lib.hid (by rw [← HR.out, HE.out, h1, h2]; rfl)
      go_enter Tryz.func50, Tryz.ntmps50
      go_wp2_with (go_at_call 83; refine (nan_str _ _).mono ?_; rintro e w' ⟨rfl, rfl⟩)
      go_ret
      exact ⟨reti hr.out, rfl⟩
section
open Go.Shelf Go.Lib Go.Sort
theorem won_closure (x y : PDecl) (w : World) : Calls Tryz.prog 49 #[.agg (declCells x).toArray, .agg (declCells y).toArray] w fun e w' => e = .returned (.int .i64 (cmpB x.name y.name)) ∧ ∃ q os', w' = grow (w.drewN q) os' := by
  have hcon := fun W' => compare_str x.name y.name W'
  show Calls Tryz.prog 49 #[.agg #[.string (str x.name), .string (str x.val), .bool x.strong], .agg #[.string (str y.name), .string (str y.val), .bool y.strong]] w _
  generalize cmpB x.name y.name = r at hcon ⊢
  go_enter Tryz.func49, Tryz.ntmps49
  go_wp2_with (go_at_call 50; refine (hcon _).mono ?_; rintro e w' ⟨rfl, rfl⟩)
  go_ret
  exact ⟨rfl, 0, _, by rw [alloc_eq_grow, alloc_eq_grow, grow_grow]; rfl⟩
theorem won_lt (x y : PDecl) : ltOf (fun x y : PDecl => cmpB x.name y.name) x y = bLt x.name y.name := by
  unfold ltOf cmpB
  by_cases h : bLt x.name y.name = true
  · simp [h]
  · have h' : bLt x.name y.name = false := by simpa using h
    by_cases g : bLt y.name x.name = true <;> simp [h', g]
theorem won_swo : SWO (ltOf fun x y : PDecl => cmpB x.name y.name) where
  irrefl x := by rw [won_lt]; exact bLt_irrefl _
  trans x y z h1 h2 := by rw [won_lt] at *; exact bLt_trans h1 h2
  ntrans x y z h1 h2 := by
    rw [won_lt] at *
    cases h : bLt x.name z.name with
    | false => rfl
    | true =>
      exfalso
      cases g : bLt y.name x.name with
      | true =>
        have := bLt_trans g h
        rw [h2] at this; cases this
      | false =>
        have := bLt_total h1 g
        rw [this, h2] at h; cases h
instance : Inhabited PDecl := ⟨⟨[], [], false⟩⟩
theorem won_lays (blk off size : Nat) (w : World) : CmpLays Tryz.prog 49 #[] declCells 3 (fun x y : PDecl => cmpB x.name y.name) blk off size w := fun _ _ _ _ x y => won_closure x y _
set_option maxRecDepth 100000 in
set_option maxHeartbeats 2000000 in
theorem sortWon_some (blk off cap : Nat) (d : Array PDecl) (w : World) (hH : HoldsK declCells 3 w blk off d) (hblk : blk < w.heap.size) (hsz : d.size < 4611686018427387904) :
    Calls Tryz.prog 48 #[.slice (some ⟨blk, off, none⟩) d.size cap, .func (.func 49) #[] #[]] w fun e w' => e = .returned (.tuple #[]) ∧
      ∃ d' n os, PermIn 0 d.size d d' ∧ SortedIn (ltOf fun x y : PDecl => cmpB x.name y.name) 0 d.size d' ∧ w' = sortWorldK declCells 3 w blk off n d' os := by
  have eg : ∀ args w, (callFunc 49 args).run Tryz.prog w = .ok (.enter 49 args) w := enters_of Tryz.func49 (by kernel_rfl) rfl
  have hlim : Lib.bitLen d.size < 4611686018427387904 := Nat.lt_of_le_of_lt (Lib.bitLen_le d.size 62 (by omega) (by omega)) (by omega)
  have hp := AnyQ.pdqsortCmpFunc_all Tryz.pdq82 3 Tryz.isAgg86 Tryz.sizeOf86 declCells (fun x y : PDecl => cmpB x.name y.name) 49 #[] won_swo blk off cap d w eg (won_lays blk off d.size w)
    ⟨fun _ => rfl, fun x v hv => by simp [declCells] at hv; rcases hv with rfl | rfl | rfl <;> rfl, hH, hblk⟩ (d.size + 1) 0 d.size (Lib.bitLen d.size) d w (by omega) rfl (SWK.start hH) (Nat.zero_le _) (Nat.le_refl _) hsz hlim (Or.inl rfl)
  have hs := pdq_sorts (ltOf fun x y : PDecl => cmpB x.name y.name) won_swo d 0 d.size (Lib.bitLen d.size) true true (Nat.zero_le _) (Nat.le_refl _) (Or.inl rfl)
  change Calls Tryz.prog 82 _ _ _ at hp
  rw [show (((0 : Nat)) : Int) = 0 from rfl] at hp
  have hl := Tryz.bits_Len (d.size : Int) w (by omega) (by omega)
  rw [Int.toNat_natCast] at hl
  have wr : IntKind.u64.wrap (d.size : Int) = d.size := by simp [IntKind.wrap, IntKind.bits, IntKind.signed]; omega
  generalize pdq (ltOf fun x y : PDecl => cmpB x.name y.name) d 0 d.size (Lib.bitLen d.size) true true = dz at *
  clear hH
  have HS := Lib.hid hs
  clear hs
  go_enter Tryz.func48, Tryz.ntmps48
  go_wp2_with (first | (go_at_call 34; refine hl.mono ?_; rintro e w' ⟨rfl, rfl⟩) | (go_at_call 82; refine hp.mono ?_; rintro e w' ⟨rfl, n, os, rfl⟩))
  go_end0
  exact ⟨rfl, dz, n, os, HS.out.1, HS.out.2, rfl⟩
set_option maxRecDepth 100000 in
set_option maxHeartbeats 2000000 in
theorem sortWon_none (p : Option Addr) (cap : Nat) (w : World) :
    Calls Tryz.prog 48 #[.slice p 0 cap, .func (.func 49) #[] #[]] w fun e w' => e = .returned (.tuple #[]) ∧ w' = w := by
  have hp := fun lim W => AnyF.pdqsortCmpFunc_none Tryz.pdq82 p cap lim (.func (.func 49) #[] #[]) W
  change ∀ lim W, Calls Tryz.prog 82 _ _ _ at hp
  have hl := Tryz.bits_Len 0 w (by omega) (by omega)
  go_enter Tryz.func48, Tryz.ntmps48
  go_wp2_with (first | (go_at_call 34; refine hl.mono ?_; rintro e w' ⟨rfl, rfl⟩) | (go_at_call 82; refine (hp _ _).mono ?_; rintro e w' ⟨rfl, rfl⟩))
  go_end0
  exact ⟨rfl, rfl⟩
end
end Go.Proofs.YtplbdlgmjehckadGreatDoor
namespace Go.Proofs.YtplbdlgmjehckadGreatDoor
open Go.RowKit
set_option linter.unusedVariables false
set_option linter.unusedSimpArgs false
def wIdx (cs : List PClaim) (n : B) : Nat → Option Nat
  | 0 => none
  | i + 1 => match cs[i]? with
    | none => wIdx cs n i
    | some c => if c.d.name = n then (match (wIdx cs n i).bind (cs[·]?) with
        | none => some i
        | some a => if beats c a = true then some i else wIdx cs n i) else wIdx cs n i
theorem wIdx_succ (cs : List PClaim) (n : B) {i : Nat} {c : PClaim} (hc : cs[i]? = some c) : wIdx cs n (i + 1) = if c.d.name = n then (match (wIdx cs n i).bind (cs[·]?) with
        | none => some i
        | some a => if beats c a = true then some i else wIdx cs n i) else wIdx cs n i := by
  conv => lhs; unfold wIdx
  rw [hc]
theorem wIdx_winner (cs : List PClaim) (n : B) : ∀ i, i ≤ cs.length → (wIdx cs n i).bind (cs[·]?) = winner (cs.take i) n
  | 0, _ => rfl
  | i + 1, h => by
    have ih := wIdx_winner cs n i (by omega)
    have hc : cs[i]? = some cs[i] := List.getElem?_eq_getElem (by omega)
    rw [List.take_add_one, hc, Option.toList_some]
    have hw : winner (cs.take i ++ [cs[i]]) n = winStep n (winner (cs.take i) n) cs[i] := by
      unfold winner; rw [List.foldl_append]; rfl
    rw [hw, ← ih]
    rw [wIdx_succ cs n hc]
    unfold winStep
    split
    · cases hx : (wIdx cs n i).bind (cs[·]?) with
      | none => simp only [comb, Option.bind_some]; exact hc
      | some a =>
        simp only [comb]
        split
        · simp only [Option.bind_some]; exact hc
        · exact hx
    · rfl
theorem wIdx_lt (cs : List PClaim) (n : B) : ∀ i j, i ≤ cs.length → wIdx cs n i = some j → j < i ∧ (cs[j]?).map (·.d.name) = some n
  | 0, j, _, h => by cases h
  | i + 1, j, hi, h => by
    have hc : cs[i]? = some cs[i] := List.getElem?_eq_getElem (by omega)
    have ih := wIdx_lt cs n i j (by omega)
    rw [wIdx_succ cs n hc] at h
    split at h
    · rename_i hn
      have hi' : some i = some j → j < i + 1 ∧ (cs[j]?).map (·.d.name) = some n := by
        intro e; cases e; exact ⟨by omega, by rw [hc]; simp [hn]⟩
      split at h
      · exact hi' h
      · split at h
        · exact hi' h
        · have := ih h; exact ⟨by omega, this.2⟩
    · have := ih h; exact ⟨by omega, this.2⟩
def fmapW (cs : List PClaim) (g off i : Nat) : Value → Option Value
  | .string s => (wIdx cs s.data.toList i).map fun j => .pointer (some ⟨g, off + j * 7, none⟩)
  | _ => none
theorem fmapW_zero (cs : List PClaim) (g off : Nat) : fmapW cs g off 0 = fun _ => none := by
  funext v; cases v <;> rfl
theorem fmapW_skip {cs : List PClaim} {g off i : Nat} {c : PClaim} {j : Nat} {a : PClaim} (hc : cs[i]? = some c) (hj : wIdx cs c.d.name i = some j) (ha : cs[j]? = some a) (hb : beats c a = false) : fmapW cs g off (i + 1) = fmapW cs g off i := by
  funext v
  cases v with
  | string s =>
    simp only [fmapW]
    congr 1
    rw [wIdx_succ _ _ hc]
    split
    · rename_i hn
      rw [← hn, hj, Option.bind_some, ha]
      simp [hb]
    · rfl
  | _ => rfl
theorem fmapW_new {cs : List PClaim} {g off i : Nat} {c : PClaim} (hc : cs[i]? = some c) (h : wIdx cs c.d.name i = none ∨ ∃ j a, wIdx cs c.d.name i = some j ∧ cs[j]? = some a ∧ beats c a = true) :
    fmapW cs g off (i + 1) (.string (str c.d.name)) = some (.pointer (some ⟨g, off + i * 7, none⟩)) := by
  simp only [fmapW, str_data]
  rw [wIdx_succ _ _ hc, if_pos rfl]
  rcases h with h | ⟨j, a, h1, h2, h3⟩
  · rw [h]; rfl
  · rw [h1, Option.bind_some, h2]; simp [h3]
theorem fmapW_other {cs : List PClaim} {g off i : Nat} {c : PClaim} (hc : cs[i]? = some c) : ∀ x, MapKept.IsKey .string x → x ≠ .string (str c.d.name) → fmapW cs g off (i + 1) x = fmapW cs g off i x := by
  intro x hx hne
  cases x with
  | string s =>
    simp only [fmapW]
    congr 1
    rw [wIdx_succ _ _ hc]
    rw [if_neg]
    intro e
    exact hne (by rw [e]; rfl)
  | _ => rfl
def nmAt (cs : List PClaim) (j : Nat) : B := ((cs[j]?).map (·.d.name)).getD []
def dAt (cs : List PClaim) (j : Nat) : PDecl := ((cs[j]?).map (·.d)).getD ⟨[], [], false⟩
theorem nmAt_dAt (cs : List PClaim) (j : Nat) : nmAt cs j = (dAt cs j).name := by
  unfold nmAt dAt; cases cs[j]? <;> rfl
def encW (cs : List PClaim) (g off : Nat) (j : Nat) : Value × Value := (.string (str (nmAt cs j)), .pointer (some ⟨g, off + j * 7, none⟩))
def decW (off : Nat) : Value × Value → Nat
  | (_, .pointer (some a)) => (a.off - off) / 7
  | _ => 0
theorem enc_dec {cs : List PClaim} {g off : Nat} {k v : Value} (h : fmapW cs g off cs.length k = some v) : encW cs g off (decW off (k, v)) = (k, v) := by
  cases k with
  | string s =>
    simp only [fmapW, Option.map_eq_some_iff] at h
    obtain ⟨j, hj, rfl⟩ := h
    have h2 := (wIdx_lt cs _ _ j (Nat.le_refl _) hj).2
    have : decW off (.string s, .pointer (some ⟨g, off + j * 7, none⟩)) = j := by
      simp only [decW]; omega
    rw [this]
    unfold encW nmAt
    rw [h2]
    simp only [Option.getD_some, Prod.mk.injEq, and_true]
    rw [← eq_str]
  | _ => cases h
theorem few_nodup : ∀ (n : Nat) (L : List Nat), L.Nodup → (∀ j ∈ L, j < n) → L.length ≤ n
  | 0, L, _, h => by
    cases L with
    | nil => simp
    | cons a L => have := h a (by simp); omega
  | n + 1, L, hn, h => by
    have h1 := few_nodup n (L.erase n) (hn.erase n) (fun j hj => by
      have h2 := List.mem_of_mem_erase hj
      have h3 := h j h2
      have : j ≠ n := fun e => by
        subst e
        exact absurd hj (by rw [hn.mem_erase_iff]; simp)
      omega)
    by_cases hm : n ∈ L
    · rw [List.length_erase_of_mem hm] at h1; omega
    · rw [List.erase_of_not_mem hm] at h1; omega
structure AllW (cs : List PClaim) (L : List Nat) : Prop where
  lt : ∀ j ∈ L, j < cs.length
  names : (L.map (nmAt cs)).Nodup
  mem : ∀ n j, wIdx cs n cs.length = some j ↔ j ∈ L ∧ nmAt cs j = n
theorem AllW.few {cs : List PClaim} {L : List Nat} (h : AllW cs L) : L.length ≤ cs.length := by
  refine few_nodup _ _ ?_ h.lt
  have := h.names
  rw [List.Nodup, List.pairwise_map] at this
  exact this.imp fun h e => h (by rw [e])
theorem AllW.look {cs : List PClaim} {L : List Nat} (h : AllW cs L) (d : PDecl) : d ∈ L.map (dAt cs) ↔ d ∈ cLook cs := by
  rw [look_mem, List.mem_map]
  have hw := fun n => wIdx_winner cs n cs.length (Nat.le_refl _)
  simp only [List.take_length] at hw
  constructor
  · rintro ⟨j, hj, rfl⟩
    have hlt := h.lt j hj
    have hc : cs[j]? = some cs[j] := List.getElem?_eq_getElem hlt
    have hi := (h.mem (nmAt cs j) j).2 ⟨hj, rfl⟩
    refine ⟨cs[j], ?_, by unfold dAt; rw [hc]; rfl⟩
    rw [← nmAt_dAt, ← hw, hi, Option.bind_some, hc]
  · rintro ⟨c, hc, rfl⟩
    rw [← hw] at hc
    cases hi : wIdx cs c.d.name cs.length with
    | none => rw [hi] at hc; cases hc
    | some j =>
      rw [hi, Option.bind_some] at hc
      exact ⟨j, ((h.mem _ _).1 hi).1, by unfold dAt; rw [hc]; rfl⟩
theorem allW_of {cs : List PClaim} {g off : Nat} {l : List (Value × Value)} {L : List Nat} (hL : L.map (encW cs g off) = l) (hn : (l.map (·.1)).Nodup) (hm : ∀ k v, MapKept.IsKey .string k → (fmapW cs g off cs.length k = some v ↔ (k, v) ∈ l)) (hk : ∀ x ∈ l, MapKept.IsKey .string x.1) : AllW cs L := by
  have hmem : ∀ j, j ∈ L → fmapW cs g off cs.length (.string (str (nmAt cs j))) = some (.pointer (some ⟨g, off + j * 7, none⟩)) := by
    intro j hj
    refine (hm (.string (str (nmAt cs j))) _ (by trivial)).2 ?_
    rw [← hL]
    exact List.mem_map.2 ⟨j, hj, rfl⟩
  have hwi : ∀ j, j ∈ L → wIdx cs (nmAt cs j) cs.length = some j := by
    intro j hj
    have := hmem j hj
    simp only [fmapW, str_data, Option.map_eq_some_iff] at this
    obtain ⟨i, hi, he⟩ := this
    simp only [Value.pointer.injEq, Option.some.injEq, Addr.mk.injEq, true_and, and_true] at he
    rw [hi, show i = j from by omega]
  refine ⟨fun j hj => (wIdx_lt _ _ _ _ (Nat.le_refl _) (hwi j hj)).1, ?_, fun n j => ⟨fun h => ?_, fun h => by rw [← h.2]; exact hwi j h.1⟩⟩
  · rw [← hL, List.map_map] at hn
    rw [List.Nodup, List.pairwise_map] at hn ⊢
    refine hn.imp fun h e => h ?_
    simp only [Function.comp_apply, encW, e]
  · have h2 := (wIdx_lt _ _ _ _ (Nat.le_refl _) h).2
    have hnm : nmAt cs j = n := by unfold nmAt; rw [h2]; rfl
    refine ⟨?_, hnm⟩
    have h3 : fmapW cs g off cs.length (.string (str n)) = some (.pointer (some ⟨g, off + j * 7, none⟩)) := by
      simp only [fmapW, str_data, h, Option.map_some]
    have h4 := (hm _ _ (by trivial)).1 h3
    rw [← hL] at h4
    obtain ⟨i, hi, he⟩ := List.mem_map.1 h4
    simp only [encW, Prod.mk.injEq, Value.pointer.injEq, Option.some.injEq, Addr.mk.injEq, true_and, and_true] at he
    rw [show j = i from by omega]; exact hi
theorem rising_ext_by : ∀ {xs ys : List PDecl}, Rising (xs.map (·.name)) → Rising (ys.map (·.name)) → (∀ d, d ∈ xs ↔ d ∈ ys) → xs = ys
  | [], [], _, _, _ => rfl
  | [], y :: ys, _, _, h => by have := (h y).2 (by simp); cases this
  | x :: xs, [], _, _, h => by have := (h x).1 (by simp); cases this
  | x :: xs, y :: ys, .cons h1 h2, .cons g1 g2, h => by
    have hlt : ∀ {a b : PDecl} {l : List PDecl}, (∀ n ∈ l.map (·.name), bLt a.name n = true) → b ∈ l → bLt a.name b.name = true := fun hh hb => hh _ (List.mem_map.2 ⟨_, hb, rfl⟩)
    have hxy : x = y := by
      rcases List.mem_cons.1 ((h x).1 (by simp)) with e | e
      · exact e
      · rcases List.mem_cons.1 ((h y).2 (by simp)) with e' | e'
        · exact e'.symm
        · have := bLt_trans (hlt h1 e') (hlt g1 e)
          rw [bLt_irrefl] at this; cases this
    subst hxy
    congr 1
    refine rising_ext_by h2 g2 fun n => ?_
    have hn := h n
    simp only [List.mem_cons] at hn
    constructor
    · intro hx
      rcases hn.1 (.inr hx) with e | e
      · subst e; have := hlt h1 hx; rw [bLt_irrefl] at this; cases this
      · exact e
    · intro hx
      rcases hn.2 (.inr hx) with e | e
      · subst e; have := hlt g1 hx; rw [bLt_irrefl] at this; cases this
      · exact e
theorem rising_pair : ∀ {xs : List B}, xs.Pairwise (fun x y => bLt y x = false) → xs.Nodup → Rising xs
  | [], _, _ => .nil
  | x :: xs, h, hn => by
    rw [List.pairwise_cons] at h
    rw [List.nodup_cons] at hn
    refine .cons (fun y hy => ?_) (rising_pair h.2 hn.2)
    cases hb : bLt x y with
    | true => rfl
    | false =>
      have := bLt_total hb (h.1 y hy)
      subst this
      exact absurd hy hn.1
theorem look_sorted {cs : List PClaim} {L : List Nat} {D : List PDecl} (h : AllW cs L) (hp : D.Perm (L.map (dAt cs))) (hs : D.Pairwise (fun x y => bLt y.name x.name = false)) : D = cLook cs := by
  refine rising_ext_by (rising_pair ?_ ?_) (by rw [look_names]; exact names_rising cs) fun d => by rw [hp.mem_iff, h.look]
  · rw [List.pairwise_map]; exact hs
  · have := (hp.map (·.name)).nodup_iff.2 (by
      have := h.names
      rw [List.map_map]
      rw [show ((fun x : PDecl => x.name) ∘ dAt cs) = nmAt cs from by funext j; exact (nmAt_dAt cs j).symm]
      exact this)
    exact this
section
open Go.Shelf Go.Lib Go.Sort
theorem declCells_len (d : PDecl) : (declCells d).length = 3 := rfl
theorem holds_of_rows {w : World} {g cap : Nat} {D : List PDecl} {cur : Array Value} {t : TypeId} (hh : w.heap[g]? = some (.cells cur t (0, 0))) (hr : RowsAt w 3 (.slice (some ⟨g, 0, none⟩) D.length cap) (D.map declCells)) : HoldsK declCells 3 w g 0 D.toArray := by
  intro q hq
  rw [size_flatK] at hq
  refine ⟨?_, freeIn hh _⟩
  have hq' : q < D.length * 3 := by simpa using hq
  rw [get_flatK _ _ _ q hq]
  have hd : D[q / 3]? = some (D[q / 3]'(by omega)) := List.getElem?_eq_getElem _
  obtain ⟨b, o, he, hc⟩ := RowsAt.at hr (k := q / 3) (r := declCells (D[q / 3]'(by omega))) (by simp [hd])
  cases he
  have hge : D.toArray[q / 3]! = D[q / 3]'(by omega) := by
    rw [getElem!_pos D.toArray (q / 3) (by simp; omega)]; simp
  rw [hge]
  have hm : q % 3 < 3 := Nat.mod_lt _ (by omega)
  have hx : (declCells (D[q / 3]'(by omega)))[q % 3]? = some ((declCells (D[q / 3]'(by omega)))[q % 3]!) := by
    rw [getElem!_pos _ (q % 3) (by rw [declCells_len]; exact hm)]
    exact List.getElem?_eq_getElem _
  have := hc (q % 3) _ hx
  rw [show 0 + q / 3 * 3 + q % 3 = 0 + q from by omega] at this
  exact this
theorem rows_of_holds {w : World} {g cap : Nat} {d : Array PDecl} (h1 : d.size ≤ cap) (h2 : cap ≤ maxLen) (hH : HoldsK declCells 3 w g 0 d) : RowsAt w 3 (.slice (some ⟨g, 0, none⟩) d.size cap) (d.toList.map declCells) := by
  refine ⟨some ⟨g, 0, none⟩, cap, by simp, by simpa using h1, h2, fun _ => ⟨g, 0, rfl, fun i r hr j c hc => ?_⟩⟩
  rw [List.getElem?_map, Option.map_eq_some_iff] at hr
  obtain ⟨x, hx, rfl⟩ := hr
  have hj : j < 3 := by have := (List.getElem?_eq_some_iff.1 hc).1; rw [declCells_len] at this; exact this
  have hi : i < d.size := by have := (List.getElem?_eq_some_iff.1 hx).1; simpa using this
  have := (hH (i * 3 + j) (by rw [size_flatK]; omega)).1
  rw [get_flatK _ _ _ _ (by omega), show (i * 3 + j) / 3 = i from by omega, show (i * 3 + j) % 3 = j from by omega] at this
  have hge : d[i]! = x := by
    rw [getElem!_pos d i hi]
    have := (List.getElem?_eq_some_iff.1 hx).2
    simpa using this
  rw [hge] at this
  have hcj : (declCells x)[j]! = c := by
    rw [getElem!_pos _ j (by rw [declCells_len]; exact hj)]
    exact (List.getElem?_eq_some_iff.1 hc).2
  rw [hcj] at this
  rw [show 0 + i * 3 + j = 0 + (i * 3 + j) from by omega]
  exact this
theorem kept_sortWorldK (enc : PDecl → List Value) (k : Nat) (w : World) (g off n : Nat) (d : Array PDecl) (os : Array Obj) : Kept (· = g) w (sortWorldK enc k w g off n d os) := by
  refine ⟨rfl, rfl, rfl, size_sortWorldK_c enc k w g off n d os, fun i hi hs => ?_⟩
  have hsz : (putRowK enc k (Sort.ahead w n) g off d).heap.size = w.heap.size := size_putRowK enc k _ g off d
  unfold sortWorldK
  rw [heap_grow_old _ _ (by rw [hsz]; exact hi)]
  show (w.heap.modify g _)[i]? = _
  rw [Array.getElem?_modify, if_neg (fun e => hs e.symm)]
theorem sort_at {w : World} {base n : Nat} {v : Value} {D : List PDecl} (hn : n = D.length) (ho : w.ownsRow base 86 3 v n (D.map declCells).flatten) (hf : D.length ≤ 1099600000000) :
    Calls Tryz.prog 48 #[v, .func (.func 49) #[] #[]] w fun e w' => e = .returned (.tuple #[]) ∧
      ∃ D' : List PDecl, D'.Perm D ∧ D'.Pairwise (fun x y => bLt y.name x.name = false) ∧ RowsAt w' 3 v (D'.map declCells) ∧ Kept (fun q => v.ownBlock = some q) w w' := by
  subst hn
  have hrows := rowsAt_of_owns (by intro r hr; obtain ⟨x, _, rfl⟩ := List.mem_map.1 hr; rfl) (by simp) ho
  rcases ho.2 with ⟨rfl, h0⟩ | ⟨g, cap, cur, rfl, hg, hh, hnc, hcm, hcs, htake⟩
  · have hD : D = [] := List.length_eq_zero_iff.1 h0
    subst hD
    refine (sortWon_none none 0 w).mono ?_
    rintro e w' ⟨rfl, rfl⟩
    exact ⟨rfl, [], .refl _, .nil, hrows, Kept.refl _ _⟩
  · have hs := sortWon_some g 0 cap D.toArray w (holds_of_rows hh hrows) (ltIn hh) (by simp; omega)
    simp only [List.size_toArray] at hs
    refine hs.mono ?_
    rintro e w' ⟨rfl, d', n, os, hp, hso, rfl⟩
    have hsz : d'.size = D.length := by have := hp.1; simpa using this
    refine ⟨rfl, d'.toList, ?_, ?_, ?_, (kept_sortWorldK declCells 3 w g 0 n d' os).mono (fun q _ hq => by subst hq; rfl)⟩
    · have := hp.2.2
      rw [Array.extract_eq_self_of_le (by omega), Array.extract_eq_self_of_le (by simp)] at this
      simpa using this
    · rw [List.pairwise_iff_getElem]
      intro i j hi hj hij
      have hi' : i < d'.size := by simpa using hi
      have hj' : j < d'.size := by simpa using hj
      have := hso i j (Nat.zero_le _) hij (by omega)
      rw [won_lt, getElem!_pos d' i hi', getElem!_pos d' j hj'] at this
      simpa using this
    · have := rows_of_holds (g := g) (cap := cap) (by omega) hcm (holdsK_sortWorldK_c declCells 3 w g 0 D.toArray d' n os (holds_of_rows hh hrows) (ltIn hh) (by simp; omega))
      rw [hsz] at this
      exact this
end
end Go.Proofs.YtplbdlgmjehckadGreatDoor
namespace Go.Proofs.YtplbdlgmjehckadGreatDoor
open Go.RowKit
set_option linter.unusedVariables false
set_option linter.unusedSimpArgs false
theorem rows_fresh {w : World} {b size : Nat} {rows : List (List Value)} {cs : Array Value} {t : TypeId} {fz : Nat × Nat} (h : w.heap[b]? = some (.cells cs t fz)) (hc : cs = rows.flatten.toArray) (hl : ∀ r ∈ rows, r.length = size) {n : Nat} (hn : n = rows.length) (hm : rows.length ≤ maxLen) :
    RowsAt w size (.slice (some ⟨b, 0, none⟩) n n) rows := by
  subst hn
  refine ⟨_, _, rfl, Nat.le_refl _, hm, fun _ => ⟨_, _, rfl, fun i r hr j c hj => ?_⟩⟩
  subst hc
  rw [show 0 + i * size + j = i * size + j by omega]
  exact cellIn h _ (by rw [List.getElem?_toArray]; exact flatten_get size rows hl i r hr j c hj)
section
variable {P : Program}
theorem step_append_own {ops : Array Oper} {o : Oper} {a : Act} {w : World} {K : Act → World → Prop} {Q : Exit → Act → World → Prop} {E : Prop} (hgd : o.guard = none) (s x : Operand) (t : TypeId)
    (ho : o.op = .call { callee := .builtin .append, args := #[s, x], argTypes := #[t, t] }) (sv xv v : Value) (hs : a.eval s = sv) (hx : a.eval x = xv) (w' : World)
    (hr : (Builtin.append_ #[t, t] o.type #[sv, xv]).run P w = .ok v w') (h : K (a.put o.dst v) w') : if Region.wanted o (yielded ops a.tmps) = true then Oper.wp P o a w K Q else E := by
  have hw : Region.wanted o (yielded ops a.tmps) = true := by simp [Region.wanted, hgd]
  rw [if_pos hw]
  unfold Oper.wp execOp
  simp only [ho, resolve, invoke, builtin, Sem.run_bind, Sem.run_pure, Result.andThen_ok, List.map_toArray, List.map_cons, List.map_nil, hs, hx, hr]
  exact h
end
section
variable {ops : Array Oper} {o : Oper} {a : Act} {K : Act → World → Prop} {Q : Exit → Act → World → Prop} {E : Prop}
theorem info_won : (Tryz.prog.info? 86).map (fun i => (i.zero, i.size, i.bytes)) = some (some (.agg #[.string ⟨#[]⟩, .string ⟨#[]⟩, .bool false]), 3, 40) := by kernel_rfl
set_option maxRecDepth 20000 in
theorem arm_put {wa wc : World} {b g off i : Nat} {cs : List PClaim} {c : PClaim} (hc : cs[i]? = some c) (hn : wIdx cs c.d.name i = none ∨ ∃ j a, wIdx cs c.d.name i = some j ∧ cs[j]? = some a ∧ beats c a = true) (hM : MapFn .string wa b (fmapW cs g off i)) (hK : Kept (fun _ => False) wa wc)
    (h : ∀ w', MapFn .string w' b (fmapW cs g off (i + 1)) → Kept (· = b) wa w' → K (a.put o.dst undef) w') :
    Oper.upon Tryz.prog o a K Q ((Sem.run Tryz.prog (Instr.mapUpdate 122 (.map (some b)) (.string (str c.d.name)) (.pointer (some ⟨g, off + i * 7, none⟩))) wc).andThen fun _ w' => .ok .skip w') :=
  upon_insert (P := Tryz.prog) (mty := 122) (kt := 9) (et := 123) (kind := .string) Tryz.underlying122 Tryz.underlying9 (fmapW cs g off (i + 1)) (hM.kept hK id) (by trivial) (fmapW_new hc hn) (fmapW_other hc)
    fun w' h1 h2 _ => h w' h1 ((hK.mono (fun _ _ h => h.elim)).trans h2)
theorem arm_won {w2 wa wc : World} {i0 : TypeInfo} (hi0 : Tryz.prog.info? 86 = some i0) (hz0 : i0.zero = some (.agg #[.string ⟨#[]⟩, .string ⟨#[]⟩, .bool false])) (hz1 : i0.size = 3) (hz2 : i0.bytes = 40)
    (hgd : o.guard = none) (s x : Operand) (t : TypeId) (ht : Tryz.prog.underlying t = some (.slice 86)) (ho : o.op = .call { callee := .builtin .append, args := #[s, x], argTypes := #[t, t] })
    (ao : Option Addr) (ac n Bk : Nat) (D : List PDecl) (d : PDecl) (hs : a.eval s = .slice ao n ac) (hx : a.eval x = .slice (some ⟨Bk, 0, none⟩) 1 1) (ho6 : wa.ownsRow w2.heap.size 86 3 (.slice ao n ac) n (D.map declCells).flatten)
    (hB : wc.heap[Bk]? = some (.cells #[.string (str d.name), .string (str d.val), .bool d.strong] 86 (0, 0))) (hK : Kept (fun _ => False) wa wc) (hn2 : n ≤ 1099600000000) (hsz : w2.heap.size ≤ wa.heap.size)
    (h : ∀ a7 c7 w7, w7.ownsRow w2.heap.size 86 3 (.slice a7 (n + 1) c7) (n + 1) ((D ++ [d]).map declCells).flatten → Kept (fun q => w2.heap.size ≤ q) wa w7 → K (a.put o.dst (.slice a7 (n + 1) c7)) w7) :
    if Region.wanted o (yielded ops a.tmps) = true then Oper.wp Tryz.prog o a wc K Q else E := by
  have ho7 := owns_kept ho6 hK (fun _ _ => id)
  obtain ⟨a7, c7, w7, hr7, ho8, k7, _⟩ := append_any (P := Tryz.prog) wc t o.type w2.heap.size 86 i0 _ 3 40 ht hi0 hz0 hz1 hz2 rfl (by omega) ao n ac _ ho7 (some ⟨Bk, 0, none⟩) 1 1 [declCells d] (rows_fresh hB rfl (by simp [declCells]) rfl (by simp [maxLen])) (by simp [declCells]) (by simp [declCells, Value.oneCell']) (by unfold maxLen; omega) (by omega) (by have := hK.size; omega)
  refine step_append_own hgd s x _ ho _ _ _ hs hx w7 hr7 (h a7 c7 w7 (by simpa using ho8) ((hK.mono (fun _ _ h => h.elim)).trans' k7 (fun i hi hx => ?_)))
  exact (ho7.lt i hx).1
end
end Go.Proofs.YtplbdlgmjehckadGreatDoor
namespace Go.Proofs.YtplbdlgmjehckadGreatDoor
open Go.RowKit
set_option linter.unusedVariables false
set_option linter.unusedSimpArgs false
theorem ruleClaims_bad {ns : List PNode} {k : Int} {media : List B} : ∀ {rs : List PRule} {f : Flt}, ruleClaims ns k media rs = .bad f → f = ⟨5, 0⟩
  | [], f, h => by cases h
  | r :: rs, f, h => by
    unfold ruleClaims at h
    split at h
    · split at h
      · cases h; rfl
      · cases hr : ruleClaims ns k media rs with
        | bad g => rw [hr] at h; cases h; exact ruleClaims_bad hr
        | ok a => rw [hr] at h; cases h
    · exact ruleClaims_bad h
theorem claims_err {ns : List PNode} {k : Int} {n : PNode} {rs : List PRule} {media : List B} {f : Flt} (h : cClaims ns k n rs media = .bad f) : f.err ≠ 0 := by
  unfold cClaims at h
  cases hr : ruleClaims ns k media rs with
  | bad g => rw [hr] at h; cases h; rw [ruleClaims_bad hr]; simp
  | ok a =>
    rw [hr, Ans.ok_then] at h
    cases ho : ownDecls n with
    | ok b => rw [ho] at h; cases h
    | bad g =>
      rw [ho] at h; cases h
      unfold ownDecls at ho
      cases hs : sDeclsOf (pGet n.attrs styleName).1 with
      | bad g =>
        rw [hs] at ho; cases ho
        exact (sdeclsOf_bad hs).1
      | ok ds =>
        rw [hs] at ho
        simp only at ho
        split at ho
        · cases ho; simp
        · cases ho
def DcEnds (w : World) (r : Ans (List PDecl)) (e : Ending) (w' : World) : Prop :=
  match r with
  | .bad f => e = .returned (.tuple #[.slice none 0 0, .int .i64 (f.err : Int)]) ∧ Kept (fun _ => False) w w' ∧ f.err ≠ 0
  | .ok look => ∃ v, e = .returned (.tuple #[v, .int .i64 0]) ∧ Kept (fun _ => False) w w' ∧ DeclsAt w' v look ∧ look.length ≤ 1099600000000
structure DLp (w1 wr : World) (bm : Nat) (cs : List PClaim) (g off i : Nat) : Prop where
  map : MapFn .string wr bm (fmapW cs g off i)
  kept : Kept (· = bm) w1 wr
structure MLp (w2 wr : World) (bm rr : Nat) (cs : List PClaim) (g off : Nat) (L0 : List Nat) (v : Value) (D : List PDecl) (L : List Nat) : Prop where
  rng : Ranging (encW cs g off) wr bm rr L
  own : wr.ownsRow w2.heap.size 86 3 v D.length (D.map declCells).flatten
  kept : Kept (· = rr) w2 wr
  perm : (D ++ L.map (dAt cs)).Perm (L0.map (dAt cs))
  sub : ∀ j ∈ L, j ∈ L0
theorem claims_at {w : World} {base n : Nat} {v : Value} {cs : List PClaim} (hn : n = cs.length) (h : w.ownsRow base 128 7 v n (cs.map claimCells).flatten) : ∃ g off ao cap, v = .slice ao n cap ∧ n ≤ cap ∧ cap ≤ maxLen ∧ (cs ≠ [] → ao = some ⟨g, off, none⟩ ∧ base ≤ g ∧ g < w.heap.size) ∧ ∀ j c, cs[j]? = some c → ClaimAt w g (off + j * 7) c := by
  subst hn
  have hr := rowsAt_of_owns (by intro r hr; obtain ⟨x, _, rfl⟩ := List.mem_map.1 hr; rfl) (by simp) h
  by_cases hc : cs = []
  · subst hc
    obtain ⟨vo, vc, rfl⟩ := owns_form h
    obtain ⟨a, cap, he, h1, h2, _⟩ := hr
    cases he
    exact ⟨0, 0, vo, vc, rfl, h1, h2, fun h => absurd rfl h, by simp⟩
  · obtain ⟨a, cap, he, h1, h2, h3⟩ := hr
    obtain ⟨b, off, rfl, h4⟩ := h3 (by simpa using hc)
    simp only [List.length_map] at he h1
    refine ⟨b, off, _, cap, he, h1, h2, fun _ => ⟨rfl, h.lt b (by rw [he]; rfl)⟩, fun j c hj i u hu => ?_⟩
    exact h4 j _ (by rw [List.getElem?_map, hj]; rfl) i u hu
theorem zero_claim (w : World) : (zeroValue 123).run Tryz.prog w = .ok (.pointer none) w := by kernel_rfl
set_option maxRecDepth 100000 in
set_option maxHeartbeats 6400000 in
theorem declared_any (ns : List PNode) (rs : List PRule) (hc : CaCtx ns rs) (media : List B) (k : Int) (hk : -9223372036854775808 ≤ k ∧ k ≤ 9223372036854775807) (m : Int) (w : World) (v rv mv : Value) (hv : NodesAt w v ns) (hr : RulesAt w rv rs) (hmv : StrsAt w mv media) (hm : w.cell? ⟨0, 0, none⟩ = some (.int .i64 m)) :
    Calls Tryz.prog 24 #[v, .int .i64 k, rv, mv] w (DcEnds w (cDeclared ns k rs media)) := by
  obtain ⟨R, HR⟩ : ∃ R, Hid (cDeclared ns k rs media = R) := ⟨_, rfl⟩
  rw [HR.out]
  obtain ⟨na, ncap, rfl, hnc1, hnc2⟩ := hv.form
  obtain ⟨ra, rcap, rfl, hrc1, hrc2⟩ := NestAt.form hr
  obtain ⟨ma, mcap, rfl, hmc1, hmc2⟩ := StrsAt.form hmv
  unfold maxLen at hnc2 hrc2 hmc2
  by_cases h0 : k < 0
  · have hrr : Hid (R = .bad ⟨6, 0⟩) := Lib.hid (by rw [← HR.out]; unfold cDeclared; rw [if_neg]; simp [inR]; omega)
    clear hc hv hr hmv
    go_enter Tryz.func24, Tryz.ntmps24
    go_wp2_with fail
    refine bodyPost_ret (v := .tuple #[.slice none 0 0, .int .i64 6]) (by simp [results, Tryz.results24, go_sem]) rfl ?_
    rw [hrr.out]
    exact ⟨rfl, Kept.refl _ _, by simp⟩
  by_cases h1 : (ns.length : Int) ≤ k
  · have hrr : Hid (R = .bad ⟨6, 0⟩) := Lib.hid (by rw [← HR.out]; unfold cDeclared; rw [if_neg]; simp [inR]; omega)
    clear hc hv hr hmv
    go_enter Tryz.func24, Tryz.ntmps24
    go_wp2_with fail
    refine bodyPost_ret (v := .tuple #[.slice none 0 0, .int .i64 6]) (by simp [results, Tryz.results24, go_sem]) rfl ?_
    rw [hrr.out]
    exact ⟨rfl, Kept.refl _ _, by simp⟩
  obtain ⟨kn, rfl⟩ : ∃ kn : Nat, k = kn := ⟨k.toNat, by omega⟩
  have hkl : kn < ns.length := by omega
  have hx := List.getElem?_eq_getElem hkl
  generalize hgx : ns[kn] = n at hx
  clear hgx
  have HCL := claims_any ns rs hc media kn n hx m w _ _ _ hv hr hmv hm
  obtain ⟨C, HC⟩ : ∃ C, Hid (cClaims ns (kn : Int) n rs media = C) := ⟨_, rfl⟩
  rw [HC.out] at HCL
  replace HCL := Lib.hid HCL
  have hRC : Hid (C.then (fun cs => Ans.ok (cLook cs)) = R) := Lib.hid (by
    rw [← HR.out, ← HC.out]; unfold cDeclared
    rw [if_pos (by simp [inR]; omega), Int.toNat_natCast, hx])
  clear hc hv hr hmv hx
  go_enter Tryz.func24, Tryz.ntmps24
  go_wp2_with fail
  refine HCL.out.mono ?_
  intro e w1 he1
  cases C with
  | bad f =>
    obtain ⟨rfl, hk1⟩ := he1
    have hne := claims_err HC.out
    have hneI : ((f.err : Int) != 0) = true := by simp; omega
    have hrr : Hid (R = .bad f) := Lib.hid hRC.out.symm
    have HNE := Lib.hid hne
    clear hne
    go_wp2_with fail
    refine bodyPost_ret (v := .tuple #[.slice none 0 0, .int .i64 (f.err : Int)]) (by simp [results, Tryz.results24, go_sem]) rfl ?_
    rw [hrr.out]
    exact ⟨rfl, hk1, HNE.out⟩
  | ok cs =>
    obtain ⟨cv, rfl, hk1, hown, hlow, hfew⟩ := he1
    obtain ⟨g, off, ao, cap, rfl, hcap1, hcap2, hao, hcl⟩ := claims_at rfl hown
    unfold maxLen at hcap2
    have hrr : Hid (R = .ok (cLook cs)) := Lib.hid hRC.out.symm
    have HLOW := Lib.hid hlow
    have HAO := Lib.hid hao
    have HCA := Lib.hid hcl
    have HK1 := Lib.hid hk1
    obtain ⟨wm, HWM⟩ : ∃ x, Hid (w1.alloc (.map #[] 0) = x) := ⟨_, rfl⟩
    have hmap : MapFn .string wm w1.heap.size (fmapW cs g off 0) := by rw [← HWM.out, fmapW_zero]; exact MapFn.made _ w1
    have HKM : Hid (Kept (fun _ => False) w1 wm) := Lib.hid (by rw [← HWM.out]; exact (Kept.refl _ w1).alloc _)
    have hbm := hmap.lt
    have HMP := Lib.hid hmap
    have e0 := run_made (P := Tryz.prog) w1 122
    obtain ⟨bm, HBM⟩ : ∃ x, Hid (w1.heap.size = x) := ⟨_, rfl⟩
    rw [HWM.out] at e0
    rw [HBM.out] at e0 HMP hbm
    clear hown hlow hao hcl hk1 hmap
    go_wp2_with fail
    go_loopw [41] (fun c wr => ∃ i : Nat, i ≤ cs.length ∧ c = .int .i64 (i : Int) ∧ Hid (DLp wm wr bm cs g off i)) (fun c _ => cs.length - (intOf c).toNat)
    case atStart => exact ⟨0, by omega, rfl, Lib.hid ⟨HMP.out, Kept.refl _ _⟩⟩
    case round =>
      obtain ⟨i, hi, rfl, HL⟩ := hrel
      obtain ⟨wr0, hwr0⟩ : ∃ x, x = wr := ⟨_, rfl⟩
      subst hwr0
      by_cases hlt : i < cs.length
      · have hx := List.getElem?_eq_getElem hlt
        generalize hgx : cs[i] = c at hx
        clear hgx
        obtain ⟨rfl, hg1, hg2⟩ := HAO.out (by intro e; rw [e] at hlt; simp at hlt)
        have hgb : ¬ g = bm := by have := HBM.out; omega
        have hat : ∀ j c, cs[j]? = some c → ClaimAt wr0 g (off + j * 7) c := fun j c hj => ((HCA.out j c hj).kept HKM.out id).kept HL.out.kept hgb
        have HAT := Lib.hid hat
        have c0 : wr0.cell? ⟨g, off + i * 7, none⟩ = some (.string (str c.d.name)) := hat i c hx 0 _ rfl
        clear hat
        have HX := Lib.hid hx
        clear hx
        cases hw : wIdx cs c.d.name i with
        | none =>
          have HW := Lib.hid hw
          have hlk := HL.out.map.miss (P := Tryz.prog) (mty := 122) Tryz.underlying122 Tryz.underlying9 (k := .string (str c.d.name)) (by trivial) (by simp only [fmapW, str_data, hw, Option.map_none]) (zero_claim wr0) true
          rw [if_pos rfl] at hlk
          clear hw
          go_upto_region 12 with fail
          go_region_held3 (fun w' => w'.cell? ⟨g, off + i * 7, none⟩ = some (.string (str c.d.name))) (first | exact hk9.cell hgb c0 | go_keep)
            (first
              | (with_reducible refine arm_put (wa := wr0) HX.out (.inl HW.out) HL.out.map (by first | exact Kept.refl _ wr0 | exact (Kept.refl _ wr0).drew) ?_; intro w9 hm9 hk9))
          all_goals
            go_wp2_with fail
            go_roundw
            case measure => simp [intOf]; omega
            case rel => exact ⟨i + 1, by omega, by go_num, Lib.hid ⟨hm9, HL.out.kept.trans hk9⟩⟩
        | some j =>
          have hjl := wIdx_lt cs _ i j (by omega) hw
          have ha := List.getElem?_eq_getElem (show j < cs.length by omega)
          generalize hga : cs[j] = a at ha
          clear hga
          have hlk := HL.out.map.hit (P := Tryz.prog) (mty := 122) Tryz.underlying122 Tryz.underlying9 (k := .string (str c.d.name)) (v := .pointer (some ⟨g, off + j * 7, none⟩)) (by trivial) (by simp only [fmapW, str_data, hw, Option.map_some]) true
          rw [if_pos rfl] at hlk
          have HO := order_any wr0 g (off + i * 7) g (off + j * 7) c a (HAT.out i c HX.out) (HAT.out j a ha) (HLOW.out c (List.mem_of_getElem? HX.out)) (HLOW.out a (List.mem_of_getElem? ha))
          have hbt := ord_beats c a
          have HJ := Lib.hid (And.intro hw (And.intro ha hjl.1))
          generalize ordI c a = r at HO hbt
          replace HO := Lib.hid HO
          clear hw ha hjl
          cases hb : beats c a with
          | true =>
            have e1 : decide (0 ≤ r) = true := by simp; exact hbt.2 hb
            have e2 : (0 ≤ r) = True := by simp; exact hbt.2 hb
            have HNW : Hid (wIdx cs c.d.name i = none ∨ ∃ j a, wIdx cs c.d.name i = some j ∧ cs[j]? = some a ∧ beats c a = true) := Lib.hid (.inr ⟨j, a, HJ.out.1, HJ.out.2.1, hb⟩)
            clear hb hbt
            go_upto_region 12 with (go_at_call 47; refine HO.out.mono ?_; rintro e w5 ⟨rfl, hk5⟩)
            have c5 := hk5.cell id c0
            have HM5 := Lib.hid (HL.out.map.kept hk5 id)
            have HK5 := Lib.hid ((HL.out.kept).trans (hk5.mono (fun _ _ h => h.elim)))
            clear hk5
            go_region_held3 (fun w' => w'.cell? ⟨g, off + i * 7, none⟩ = some (.string (str c.d.name))) (first | exact hk9.cell hgb c5 | go_keep)
              (first
                | (with_reducible refine arm_put (wa := w5) HX.out HNW.out HM5.out (by first | exact Kept.refl _ w5 | exact (Kept.refl _ w5).drew) ?_; intro w9 hm9 hk9))
            all_goals
              go_wp2_with fail
              go_roundw
              case measure => simp [intOf]; omega
              case rel => exact ⟨i + 1, by omega, by go_num, Lib.hid ⟨hm9, HK5.out.trans hk9⟩⟩
          | false =>
            have hn0 : ¬ 0 ≤ r := fun h => by have := hbt.1 h; rw [hb] at this; cases this
            have e1 : decide (0 ≤ r) = false := by simp; omega
            have e2 : (0 ≤ r) = False := by simp; omega
            have HNW : Hid (fmapW cs g off (i + 1) = fmapW cs g off i) := Lib.hid (fmapW_skip HX.out HJ.out.1 HJ.out.2.1 hb)
            clear hb hbt hn0
            go_wp2_with (go_at_call 47; refine HO.out.mono ?_; rintro e w5 ⟨rfl, hk5⟩)
            go_roundw
            case measure => simp [intOf]; omega
            case rel => exact ⟨i + 1, by omega, by go_num, Lib.hid ⟨by rw [HNW.out]; exact HL.out.map.kept hk5 id, (HL.out.kept).trans (hk5.mono (fun _ _ h => h.elim))⟩⟩
      · obtain rfl : i = cs.length := by omega
        obtain ⟨w2, l, hrg, hst, hLl, hnd, hmm, hkk, hk2, hs2⟩ := Ranging.start (P := Tryz.prog) (mty := 122) (enc := encW cs g off) HL.out.map Tryz.underlying122 (fun l => l.map (decW off)) (fun es hes => by
          rw [List.map_map, List.map_map]
          refine List.map_congr_left fun x hx => ?_
          simp only [Function.comp_apply]
          exact enc_dec (hes x hx).2)
        obtain ⟨L0, HL0⟩ : ∃ x, Hid (l.map (decW off) = x) := ⟨_, rfl⟩
        rw [HL0.out] at hst hLl
        have hall := allW_of hLl hnd hmm hkk
        have HAL := Lib.hid hall
        have hl0 : L0.length ≤ 1099600000000 := by have := hall.few; omega
        have hbw := HL.out.map.lt
        obtain ⟨rr, HRR⟩ : ∃ x, Hid (wr0.heap.size = x) := ⟨_, rfl⟩
        rw [HRR.out] at hrg hst
        have hw2 : w2.heap.size = rr + 1 := by rw [← HRR.out]; exact hs2
        have HK2 : Hid (Kept (· = bm) wm w2) := Lib.hid (HL.out.kept.trans (hk2.mono (fun _ _ h => h.elim)))
        have HS2 : Hid (MLp w2 w2 bm rr cs g off L0 (.slice none 0 0) [] L0) := Lib.hid ⟨hst, World.ownsRow_nil _ _ _ _, Kept.refl _ _, .refl _, fun _ h => h⟩
        have hbr : bm < rr := by rw [← HRR.out]; exact hbw
        clear hst hLl hnd hmm hkk hk2 hs2 hall
        go_wp2_with fail
        go_loopw [16] (fun v wx => ∃ (D : List PDecl) (L : List Nat), Hid (MLp w2 wx bm rr cs g off L0 v D L)) (fun _ wx => wx.rangeLeft bm rr)
        case atStart => exact ⟨[], L0, HS2⟩
        case round =>
          obtain ⟨D, L, HM⟩ := hrel
          obtain ⟨wr1, hwr1⟩ : ∃ x, x = wr := ⟨_, rfl⟩
          subst hwr1
          obtain ⟨vo, vc, rfl⟩ := owns_form HM.out.own
          have hlen : D.length + L.length ≤ 1099600000000 := by have := HM.out.perm.length_eq; simp at this; omega
          rcases HM.out.rng.next (P := Tryz.prog) 0 with ⟨hL, hnx⟩ | ⟨j, L', w3, hp, hnx, hrng, hk3, hs3, hen⟩
          · subst hL
            have HS := Lib.hid (sort_at rfl HM.out.own (by omega))
            go_wp2_with (go_at_call 48; refine HS.out.mono ?_; rintro e w5 ⟨rfl, D', hp', hs', hr', hk'⟩)
            refine bodyPost_ret (v := .tuple #[.slice vo D.length vc, .int .i64 0]) (by simp [results, Tryz.results24, go_sem]) rfl ?_
            rw [hrr.out]
            have hpm := HM.out.perm
            rw [List.map_nil, List.append_nil] at hpm
            have hlk := look_sorted HAL.out (hp'.trans hpm) hs'
            have hb1 := HK1.out.size
            have hb2 := HBM.out
            refine ⟨_, rfl, ((((HK1.out.trans HKM.out).trans' HK2.out (fun q hq hx => by omega)).trans' HM.out.kept (fun q hq hx => by omega)).trans' hk' (fun q hq hx => by have := (HM.out.own.lt q hx).1; omega)), by rw [← hlk]; exact hr', by rw [← hlk]; have := hp'.length_eq; omega⟩
          · have hjm : j ∈ L := hp.mem_iff.2 (by simp)
            have hjlt := HAL.out.lt j (HM.out.sub j hjm)
            have hx := List.getElem?_eq_getElem hjlt
            generalize hgx : cs[j] = c at hx
            clear hgx
            obtain ⟨rfl, hg1, hg2⟩ := HAO.out (by intro e; rw [e] at hjlt; simp at hjlt)
            have hgb : ¬ g = bm := by have := HBM.out; omega
            have hgr : ¬ g = rr := by have := HBM.out; omega
            have hgw : ¬ w2.heap.size ≤ g := by have := HBM.out; omega
            have hat : ClaimAt w3 g (off + j * 7) c := (((((HCA.out j c hx).kept HKM.out id).kept HK2.out hgb).kept HM.out.kept hgr).kept hk3 hgr)
            have c0 : w3.cell? ⟨g, off + j * 7, none⟩ = some (.string (str c.d.name)) := hat 0 _ rfl
            have c1 : w3.cell? ⟨g, off + j * 7 + 1, none⟩ = some (.string (str c.d.val)) := hat 1 _ rfl
            have c2 : w3.cell? ⟨g, off + j * 7 + 2, none⟩ = some (.bool c.d.strong) := hat 2 _ rfl
            have hda : Hid (dAt cs j = c.d) := Lib.hid (by unfold dAt; rw [hx]; rfl)
            have HO3 : Hid (w3.ownsRow w2.heap.size 86 3 (.slice vo D.length vc) D.length (D.map declCells).flatten) := Lib.hid (owns_kept HM.out.own hk3 (fun q hq hx => by have := (HM.out.own.lt q hq).1; omega))
            have HRN := Lib.hid hrng
            have HK3 := Lib.hid (HM.out.kept.trans hk3)
            have HP := Lib.hid hp
            have hll : Hid (L'.length < L.length) := Lib.hid (by have := hp.length_eq; simp at this; omega)
            have hz3 : Hid (w2.heap.size ≤ w3.heap.size) := Lib.hid HK3.out.size
            have hdl : D.length ≤ 1099600000000 := by omega
            obtain ⟨i0, hi0, hz0, hz1, hz2⟩ := info_parts info_won
            simp only [encW] at hnx hen
            clear hat hk3 hrng hp hjm hx hs3
            go_upto_region 18 with fail
            go_region_held3 (fun w' => w'.cell? ⟨g, off + j * 7, none⟩ = some (.string (str c.d.name)) ∧ w'.cell? ⟨g, off + j * 7 + 1, none⟩ = some (.string (str c.d.val)) ∧ w'.cell? ⟨g, off + j * 7 + 2, none⟩ = some (.bool c.d.strong)) (first | exact ⟨hk9.cell hgw c0, hk9.cell hgw c1, hk9.cell hgw c2⟩ | go_keep)
              (first
                | (refine arm_won (w2 := w2) (wa := w3) hi0 hz0 hz1 hz2 (by rfl) (.tmp 82) (.tmp 99) 81 Tryz.underlying81 (by rfl) vo vc D.length _ D c.d (by rfl) (by rfl) HO3.out (newIn _ _) (by first | exact (Kept.refl _ w3).alloc _ | exact ((Kept.refl _ w3).drew).alloc _) hdl hz3.out ?_; intro a9 c9 w9 ho9 hk9))
            all_goals
              go_wp2_with fail
              go_roundw
              case measure => rw [HM.out.rng.left_len, (HRN.out.kept hk9 (by omega) (by omega)).left_len]; exact hll.out
              case rel =>
                refine ⟨D ++ [c.d], L', Lib.hid ⟨HRN.out.kept hk9 (by omega) (by omega), by rw [List.length_append]; exact ho9, HK3.out.trans' hk9 (fun q hq hx => by omega), ?_, fun q hq => HM.out.sub q (HP.out.mem_iff.2 (List.mem_cons_of_mem _ hq))⟩⟩
                have h1 := (HP.out.map (dAt cs)).append_left D
                rw [List.map_cons, hda.out] at h1
                rw [List.append_assoc]
                exact h1.symm.trans HM.out.perm
end Go.Proofs.YtplbdlgmjehckadGreatDoor
namespace Go.Proofs.YtplbdlgmjehckadGreatDoor
open Go.RowKit
set_option linter.unusedVariables false
set_option linter.unusedSimpArgs false
set_option maxRecDepth 20000 in
theorem value1_any (x : PDecl) (n : B) (p : Nat) (w : World) (h : w.cell? ⟨p, 0, none⟩ = some (.string (str n))) :
    Calls Tryz.prog 26 #[.agg #[.string (str x.name), .string (str x.val), .bool x.strong], .pointer (some ⟨p, 0, none⟩)] w fun e w' => e = .returned (.bool (x.name == n)) ∧ Kept (fun _ => False) w w' := by
  go_enter Tryz.func26, Tryz.ntmps26
  have h2 := cell_alloc h (.cells #[.string (str x.name), .string (str x.val), .bool x.strong] 86 (0, 0))
  obtain ⟨r, HR⟩ : ∃ r, Hid ((x.name == n) = r) := ⟨_, rfl⟩
  have HRR : (x.name == n) = r := HR.out
  go_wp2_with fail
  go_ret
  exact ⟨retb HR.out.symm, (Kept.refl _ w).alloc _⟩
def IdxR (look : List PDecl) (n : B) (r : Int) : Prop := (∃ (i : Nat) (d : PDecl), r = (i : Int) ∧ look[i]? = some d ∧ lookFind look n = some d) ∨ (r = -1 ∧ lookFind look n = none)
theorem find_drop {look : List PDecl} {n : B} {i : Nat} {x : PDecl} (h : look[i]? = some x) : lookFind (look.drop i) n = if (x.name == n) = true then some x else lookFind (look.drop (i + 1)) n := by
  rw [List.drop_eq_getElem_cons (List.getElem?_eq_some_iff.1 h).1, show look[i]'(List.getElem?_eq_some_iff.1 h).1 = x from (List.getElem?_eq_some_iff.1 h).2]
  unfold lookFind
  rw [List.find?_cons]
  cases x.name == n <;> rfl
set_option maxRecDepth 100000 in
set_option maxHeartbeats 1600000 in
theorem windex_any (look : List PDecl) (n : B) (p : Nat) (w : World) (v : Value) (hv : DeclsAt w v look) (hp : w.cell? ⟨p, 0, none⟩ = some (.string (str n))) (hf : look.length ≤ 1099600000000) :
    Calls Tryz.prog 25 #[v, .func (.func 26) #[] #[.pointer (some ⟨p, 0, none⟩)]] w fun e w' => (∃ r, e = .returned (.int .i64 r) ∧ IdxR look n r) ∧ Kept (fun _ => False) w w' := by
  obtain ⟨la, lc, rfl, hl1, hl2⟩ := DeclsAt.form hv
  unfold maxLen at hl2
  have HV := Lib.hid hv
  have HP := Lib.hid hp
  clear hv hp
  have eg : ∀ args w, (callFunc 26 args).run Tryz.prog w = .ok (.enter 26 args) w := enters_of Tryz.func26 (by kernel_rfl) rfl
  go_enter Tryz.func25, Tryz.ntmps25
  go_wp2_with fail
  go_loopw [8] (fun c wr => ∃ i : Nat, i ≤ look.length ∧ c = .int .i64 (i : Int) ∧ Hid (Kept (fun _ => False) w wr) ∧ Hid (lookFind (look.drop i) n = lookFind look n)) (fun c _ => look.length - (intOf c).toNat)
  case atStart => exact ⟨0, by omega, rfl, Lib.hid (Kept.refl _ _), Lib.hid (by rw [List.drop_zero])⟩
  case round =>
    obtain ⟨i, hi, rfl, HK, HF⟩ := hrel
    obtain ⟨wr0, hwr0⟩ : ∃ x, x = wr := ⟨_, rfl⟩
    subst hwr0
    by_cases hlt : i < look.length
    · have hx := List.getElem?_eq_getElem hlt
      generalize hgx : look[i] = x at hx
      clear hgx
      obtain ⟨b, o, rfl, c0, c1, c2⟩ := DeclsAt.at (RowsAt.below HV.out HK.out.below) hx
      have HC := value1_any x n p wr0 (HK.out.cell id HP.out)
      have hfd := find_drop (n := n) hx
      have HX := Lib.hid hx
      cases hb : (x.name == n) with
      | true =>
        rw [hb] at HC hfd
        replace HC := Lib.hid HC
        have hr : Hid (lookFind look n = some x) := Lib.hid (by rw [← HF.out, hfd]; rfl)
        clear hfd hx hb
        go_wp2_with (go_at_fn 26; refine HC.out.mono ?_; rintro e w5 ⟨rfl, hk5⟩)
        go_ret
        exact ⟨⟨_, rfl, .inl ⟨i, x, rfl, HX.out, hr.out⟩⟩, HK.out.trans hk5⟩
      | false =>
        rw [hb] at HC hfd
        replace HC := Lib.hid HC
        have hr : Hid (lookFind (look.drop (i + 1)) n = lookFind look n) := Lib.hid (by rw [← HF.out, hfd]; rfl)
        clear hfd hx hb
        go_wp2_with (go_at_fn 26; refine HC.out.mono ?_; rintro e w5 ⟨rfl, hk5⟩)
        go_roundw
        case measure => simp [intOf]; omega
        case rel => exact ⟨i + 1, by omega, by go_num, Lib.hid (HK.out.trans hk5), hr⟩
    · obtain rfl : i = look.length := by omega
      have hr : Hid (lookFind look n = none) := Lib.hid (by rw [← HF.out, List.drop_length]; rfl)
      go_wp2_with fail
      go_ret
      exact ⟨⟨_, rfl, .inr ⟨rfl, hr.out⟩⟩, HK.out⟩
def VlEnds (w : World) (r : Ans B) (e : Ending) (w' : World) : Prop :=
  match r with
  | .bad f => e = .returned (.tuple #[.string ⟨#[]⟩, .int .i64 (f.err : Int)]) ∧ Kept (fun _ => False) w w' ∧ f.err ≠ 0
  | .ok s => e = .returned (.tuple #[.string (str s), .int .i64 0]) ∧ Kept (fun _ => False) w w'
def VAt (ns : List PNode) (rs : List PRule) (media : List B) (name : B) (k : Int) (R : Ans B) : Prop :=
  if k < 0 then Ans.ok (pInitial name) = R else k < (ns.length : Int) ∧ cValueF (k.toNat + 1) ns k rs media name = R
theorem parent_of {ns : List PNode} {k : Nat} {n : PNode} (h : ns[k]? = some n) : parentOf ns k = n.parent := by
  unfold parentOf; rw [h]
theorem value_fuel (ns : List PNode) (rs : List PRule) (media : List B) (name : B) : ∀ (f f' : Nat) (k : Int), k.toNat < f → k.toNat < f' → cValueF f ns k rs media name = cValueF f' ns k rs media name
  | 0, _, _, h, _ => absurd h (Nat.not_lt_zero _)
  | _ + 1, 0, _, _, h => absurd h (Nat.not_lt_zero _)
  | f + 1, f' + 1, k, h1, h2 => by
    unfold cValueF
    congr 1
    funext look
    cases lookFind look name with
    | some d => rfl
    | none =>
      simp only
      split
      · rename_i hc
        simp only [Bool.and_eq_true, decide_eq_true_eq] at hc
        exact value_fuel ns rs media name f f' _ (by omega) (by omega)
      · rfl
theorem value_up {ns : List PNode} {rs : List PRule} {media : List B} {name : B} {jn : Nat} {par : Int} {R : Ans B} (hl : jn < ns.length) (hp : par < (jn : Int)) (h : (if (true && decide (0 ≤ par) && decide (par < (jn : Int))) = true then cValueF jn ns par rs media name else Ans.ok (pInitial name)) = R) : VAt ns rs media name par R := by
  unfold VAt
  by_cases h0 : par < 0
  · rw [if_pos h0]
    rw [if_neg (by simp; omega)] at h
    exact h
  · rw [if_neg h0]
    rw [if_pos (by simp; omega)] at h
    exact ⟨by omega, by rw [← h]; exact value_fuel ns rs media name _ _ _ (by omega) (by omega)⟩
theorem value_start (ns : List PNode) (rs : List PRule) (media : List B) (name : B) {k : Nat} (h : k < ns.length) : VAt ns rs media name (k : Int) (cValue ns (k : Int) rs media name) := by
  unfold VAt
  rw [if_neg (by omega)]
  exact ⟨by omega, rfl⟩
set_option maxRecDepth 100000 in
set_option maxHeartbeats 6400000 in
theorem value_any (ns : List PNode) (rs : List PRule) (hc : CaCtx ns rs) (media : List B) (name : B) (k : Int) (hk : -9223372036854775808 ≤ k ∧ k ≤ 9223372036854775807) (m : Int) (w : World) (v rv mv : Value) (hv : NodesAt w v ns) (hr : RulesAt w rv rs) (hmv : StrsAt w mv media) (hm : w.cell? ⟨0, 0, none⟩ = some (.int .i64 m)) :
    Calls Tryz.prog 9 #[v, .int .i64 k, rv, mv, .string (str name)] w (VlEnds w (cValue ns k rs media name)) := by
  obtain ⟨R, HR⟩ : ∃ R, Hid (cValue ns k rs media name = R) := ⟨_, rfl⟩
  rw [HR.out]
  obtain ⟨na, ncap, rfl, hnc1, hnc2⟩ := hv.form
  obtain ⟨ra, rcap, rfl, hrc1, hrc2⟩ := NestAt.form hr
  obtain ⟨ma, mcap, rfl, hmc1, hmc2⟩ := StrsAt.form hmv
  unfold maxLen at hnc2 hrc2 hmc2
  have hbad : (k < 0 ∨ (ns.length : Int) ≤ k) → R = .bad ⟨6, 0⟩ := fun h => by
    rw [← HR.out]; unfold cValue cValueF cDeclared
    rw [if_neg (by simp [inR]; omega)]; rfl
  by_cases h0 : k < 0
  · have hrr : Hid (R = .bad ⟨6, 0⟩) := Lib.hid (hbad (.inl h0))
    clear hc hv hr hmv hbad
    go_enter Tryz.func9, Tryz.ntmps9
    go_wp2_with fail
    refine bodyPost_ret (v := .tuple #[.string ⟨#[]⟩, .int .i64 6]) (by simp [results, Tryz.results9, go_sem]) rfl ?_
    rw [hrr.out]
    exact ⟨rfl, (Kept.refl _ _).alloc _, by simp⟩
  by_cases h1 : (ns.length : Int) ≤ k
  · have hrr : Hid (R = .bad ⟨6, 0⟩) := Lib.hid (hbad (.inr h1))
    clear hc hv hr hmv hbad
    go_enter Tryz.func9, Tryz.ntmps9
    go_wp2_with fail
    refine bodyPost_ret (v := .tuple #[.string ⟨#[]⟩, .int .i64 6]) (by simp [results, Tryz.results9, go_sem]) rfl ?_
    rw [hrr.out]
    exact ⟨rfl, (Kept.refl _ _).alloc _, by simp⟩
  obtain ⟨kn, rfl⟩ : ∃ kn : Nat, k = kn := ⟨k.toNat, by omega⟩
  have HS0 : Hid (VAt ns rs media name (kn : Int) R) := Lib.hid (by rw [← HR.out]; exact value_start ns rs media name (by omega))
  have HCC := Lib.hid hc
  have HV := Lib.hid hv
  have HRS := Lib.hid hr
  have HMV := Lib.hid hmv
  have HM := Lib.hid hm
  clear hc hv hr hmv hm hbad
  go_enter Tryz.func9, Tryz.ntmps9
  go_upto_block 0 with fail
  obtain ⟨wn, HWN⟩ : ∃ x, Hid (w.alloc (.cells #[.string (str name)] 9 (0, 0)) = x) := ⟨_, rfl⟩
  have hnc : wn.cell? ⟨w.heap.size, 0, none⟩ = some (.string (str name)) := by rw [← HWN.out]; exact cellIn (newIn w _) 0 rfl
  have HNC := Lib.hid hnc
  have HKN : Hid (Kept (fun _ => False) w wn) := Lib.hid (by rw [← HWN.out]; exact (Kept.refl _ w).alloc _)
  rw [HWN.out]
  clear hnc
  go_cut [] (fun wx => Hid (Kept (fun _ => False) wn wx) ∧ Hid (Ans.ok (pInitial name) = R))
  case first =>
    go_wp2_with fail
    go_loopw [1] (fun c wr => ∃ j : Int, c = .int .i64 j ∧ Hid (Kept (fun _ => False) wn wr) ∧ Hid (VAt ns rs media name j R)) (fun c _ => (intOf c + 1).toNat)
    case atStart => exact ⟨kn, rfl, Lib.hid (Kept.refl _ _), HS0⟩
    case round =>
      obtain ⟨j, rfl, HK, HVA⟩ := hrel
      obtain ⟨wr0, hwr0⟩ : ∃ x, x = wr := ⟨_, rfl⟩
      subst hwr0
      by_cases hneg : j < 0
      · have hfin : Hid (Ans.ok (pInitial name) = R) := Lib.hid (by have := HVA.out; unfold VAt at this; rw [if_pos hneg] at this; exact this)
        go_wp2_with fail
        go_meet
        case rel => exact ⟨HK, hfin⟩
      · obtain ⟨jn, rfl⟩ : ∃ jn : Nat, j = jn := ⟨j.toNat, by omega⟩
        have hva := HVA.out
        unfold VAt at hva
        rw [if_neg hneg] at hva
        obtain ⟨hjl, hva⟩ := hva
        have hjl : jn < ns.length := by omega
        have hx := List.getElem?_eq_getElem hjl
        generalize hgx : ns[jn] = n at hx
        clear hgx
        have hva : (cDeclared ns (jn : Int) rs media).then (fun look => match lookFind look name with
            | some d => .ok d.val
            | none => if pInherits name && decide (0 ≤ n.parent) && decide (n.parent < (jn : Int)) then cValueF jn ns n.parent rs media name else .ok (pInitial name)) = R := by
          rw [← hva]
          conv => rhs; unfold cValueF
          simp only [Int.toNat_natCast, parent_of hx]
          rfl
        have HKW := Lib.hid (HKN.out.trans HK.out)
        have HDC := declared_any ns rs HCC.out media (jn : Int) (by omega) m wr0 _ _ _ (nodes_firm.kept HV.out HKW.out) (rules_firm.kept HRS.out HKW.out) (RowsAt.below HMV.out HKW.out.below) (HKW.out.cell id HM.out)
        obtain ⟨D, HD⟩ : ∃ x, Hid (cDeclared ns (jn : Int) rs media = x) := ⟨_, rfl⟩
        rw [HD.out] at HDC hva
        replace HDC := Lib.hid HDC
        obtain ⟨nb, noff, av, rfl, g0, g1, g2, g3, g4, g5, hav⟩ := (nodes_firm.kept HV.out HKW.out).at hx
        have HVA2 := Lib.hid hva
        clear hva hav hx g0 g2 g3 g4 g5 HVA
        go_wp2_with fail
        refine HDC.out.mono ?_
        intro e w1 he1
        cases D with
        | bad f =>
          obtain ⟨rfl, hk1, hne⟩ := he1
          have hneI : ((f.err : Int) != 0) = true := by simp; omega
          have hrr : Hid (R = .bad f) := Lib.hid HVA2.out.symm
          have HNE := Lib.hid hne
          clear hne
          go_wp2_with fail
          refine bodyPost_ret (v := .tuple #[.string ⟨#[]⟩, .int .i64 (f.err : Int)]) (by simp [results, Tryz.results9, go_sem]) rfl ?_
          rw [hrr.out]
          exact ⟨rfl, HKW.out.trans hk1, HNE.out⟩
        | ok look =>
          obtain ⟨lv, rfl, hk1, hlv, hlf⟩ := he1
          obtain ⟨la, lc, rfl, hlc1, hlc2⟩ := DeclsAt.form hlv
          unfold maxLen at hlc2
          have HIX := Lib.hid (windex_any look name w.heap.size w1 _ hlv (hk1.cell id (HK.out.cell id HNC.out)) hlf)
          have HLV := Lib.hid hlv
          have HK1 := Lib.hid (HK.out.trans hk1)
          have q1 := hk1.cell id g1
          clear hlv hk1 g1
          go_wp2_with fail
          refine HIX.out.mono ?_
          rintro e w2 ⟨⟨r, rfl, hr⟩, hk2⟩
          rcases hr with ⟨i, d, rfl, hi, hfd⟩ | ⟨rfl, hfd⟩
          · obtain ⟨lb, lo, rfl, c0, c1, c2⟩ := DeclsAt.at (RowsAt.below HLV.out hk2.below) hi
            have hil : i < look.length := (List.getElem?_eq_some_iff.1 hi).1
            have hrr : Hid (R = .ok d.val) := Lib.hid (by have := HVA2.out; rw [Ans.ok_then, hfd] at this; exact this.symm)
            clear hi hfd
            go_wp2_with fail
            refine bodyPost_ret (v := .tuple #[.string (str d.val), .int .i64 0]) (by simp [results, Tryz.results9, go_sem]) rfl ?_
            rw [hrr.out]
            exact ⟨rfl, HKN.out.trans (HK1.out.trans hk2)⟩
          · have hva := HVA2.out
            rw [Ans.ok_then, hfd] at hva
            simp only at hva
            have q2 := hk2.cell id q1
            have n2 := hk2.cell id (HK1.out.cell id HNC.out)
            have HI := inherits_any name w2
            have HK2 := Lib.hid (HK1.out.trans hk2)
            clear hfd q1 hk2
            generalize n.parent = par at q2 hva
            cases hin : pInherits name with
            | false =>
              rw [hin] at HI hva
              replace HI := Lib.hid HI
              have hfin : Hid (Ans.ok (pInitial name) = R) := Lib.hid (by simpa using hva)
              clear hva hin
              go_wp2_with (go_at_call 27; refine HI.out.mono ?_; rintro e w3 ⟨rfl, rfl⟩)
              go_meet
              case rel => exact ⟨HK2, hfin⟩
            | true =>
              rw [hin] at HI hva
              replace HI := Lib.hid HI
              clear hin
              by_cases hpk : (jn : Int) ≤ par
              · have hfin : Hid (Ans.ok (pInitial name) = R) := Lib.hid (by rw [if_neg (by simp; omega)] at hva; exact hva)
                clear hva
                go_wp2_with (go_at_call 27; refine HI.out.mono ?_; rintro e w3 ⟨rfl, rfl⟩)
                go_meet
                case rel => exact ⟨HK2, hfin⟩
              · have hup := Lib.hid (value_up hjl (by omega) hva)
                clear hva
                go_wp2_with (go_at_call 27; refine HI.out.mono ?_; rintro e w3 ⟨rfl, rfl⟩)
                go_roundw
                case measure => simp only [intOf]; omega
                case rel => exact ⟨par, rfl, HK2, hup⟩
  case rest =>
    obtain ⟨HK, HF⟩ := hcut
    have n2 := HK.out.cell id HNC.out
    have HI := Lib.hid (initial_any name wc)
    go_wp2_with (go_at_call 28; refine HI.out.mono ?_; rintro e w3 ⟨rfl, rfl⟩)
    refine bodyPost_ret (v := .tuple #[.string (str (pInitial name)), .int .i64 0]) (by simp [results, Tryz.results9, go_sem]) rfl ?_
    rw [← HF.out]
    exact ⟨rfl, HKN.out.trans HK.out⟩
end Go.Proofs.YtplbdlgmjehckadGreatDoor
namespace Go.Proofs.YtplbdlgmjehckadGreatDoor
open Go.RowKit
set_option linter.unusedVariables false
set_option linter.unusedSimpArgs false
end Go.Proofs.YtplbdlgmjehckadGreatDoor
namespace Go.Proofs.YtplbdlgmjehckadGreatDoor
open Go.RowKit Go.ChangeShapes Go.WideShapes Go.Deep
set_option linter.unusedVariables false
set_option linter.unusedSimpArgs false
section
variable {H : Type} {enc : TypeId × Value → H} {P : Program} {w : World} {base : Nat} {spare : Nat → Bool} {held : Bool}
end
section
variable {H : Type} {enc : TypeId × Value → H} {w : World} {spare : Nat → Bool} {held : Bool}
end
end Go.Proofs.YtplbdlgmjehckadGreatDoor

