/-
 Lemmas for the claims of this seat: the program's functions walked, and plain laws. In this order: AppOld StrsMem R3Get.
-/
import Derived.Test.YtplbdlgmjehckacGreatDoorPk13
import Derived.Test.YtplbdlgmjehckacGreatDoorPk9
import Derived.Test.YtplbdlgmjehckacGreatDoorPk14
import Derived.Deep.QuietTactic
namespace Go.Proofs.YtplbdlgmjehckacGreatDoor
open Go.RowKit
set_option linter.unusedVariables false
set_option linter.unusedSimpArgs false
section
variable {P : Program}
theorem append_stays (w : World) (t ty : TypeId) (base : Nat) (e : TypeId) (i : TypeInfo) (z : Value) (size bytes : Nat) (ht : P.underlying t = some (.slice e)) (hi : P.info? e = some i) (hz : i.zero = some z)
  (hsize : i.size = size) (hby : i.bytes = bytes) (v : Value) (n : Nat) (xs : List Value) (hown : w.ownsRow base e size v n xs)
  (a : Addr) (m c : Nat) (news : List Value) (hl : news.length = m * size) (hnews : ∀ j u, news[j]? = some u → w.cell? (a.add j) = some u) (h1 : ∀ u ∈ news, u.oneCell' = true)
  (h63 : n + m ≤ maxLen) (hbytes : (n + m) * bytes ≤ 140737488355328) (v' : Value) (w' : World) (hrun : (Builtin.append_ #[t, t] ty #[v, .slice (some a) m c]).run P w = .ok v' w') :
  w'.ownsRow base e size v n xs := by
 subst hsize
 subst hby
 have hsmall : n + m ≤ 9223372036854775807 := by simp only [maxLen] at h63; omega
 rcases hown.2 with ⟨rfl, rfl⟩ | ⟨g, cap, cur, rfl, hbg, hg, hnc, hcm, hcs, htake⟩
 ·exact ⟨hown.1, .inl ⟨rfl, rfl⟩⟩
 ·by_cases hroom : n + m ≤ cap
  ·have hfit : n * i.size + news.length ≤ cur.size := by rw [hl, hcs, ← Nat.add_mul]; exact Nat.mul_le_mul_right _ hroom
   have hr := run_append_room (P := P) w t ty e i ht hi g n cap cur hg a m c news hl hnews h1 hroom hfit
   rw [hr] at hrun
   injection hrun with hv hw
   subst hw
   refine ⟨hown.1, .inr ⟨g, cap, _, rfl, hbg, setRow_heap w g cur _ e _ hg, hnc, hcm, ?_, ?_⟩⟩
   ·simp only [List.size_toArray, List.length_append, List.length_take, List.length_drop, Array.length_toList]
    omega
   ·have hlen : (cur.toList.take (n * i.size)).length = n * i.size := by rw [htake]; exact hown.1
    rw [← htake]
    simp only [List.append_assoc]
    have := List.take_left (l₁ := cur.toList.take (n * i.size)) (l₂ := news ++ cur.toList.drop (n * i.size + news.length))
    rwa [hlen] at this
  ·have holds : ∀ j u, xs[j]? = some u → w.cell? ((⟨g, 0, none⟩ : Addr).add j) = some u := hown.cells (g := g) rfl
   have hr := run_append_grow (P := P) w t ty e i z ht hi hz ⟨g, 0, none⟩ n cap xs hown.1 holds a m c news hl hnews (by omega) (by omega) (growslice_fits (by omega) hbytes)
   rw [hr] at hrun
   injection hrun with hv hw
   subst hw
   refine ⟨hown.1, .inr ⟨g, cap, cur, rfl, hbg, ?_, hnc, hcm, hcs, htake⟩⟩
   exact (Go.heap_alloc_old w.drew _ (Array.getElem?_eq_some_iff.1 hg).1).trans hg
theorem append_stays_any (w : World) (t ty : TypeId) (base : Nat) (e : TypeId) (i : TypeInfo) (z : Value) (size bytes : Nat) (ht : P.underlying t = some (.slice e)) (hi : P.info? e = some i) (hz : i.zero = some z)
  (hsize : i.size = size) (hby : i.bytes = bytes) (hzs : z.cells.size = size) (hsz : 0 < size)
  (ao : Option Addr) (n co : Nat) (xs : List Value) (hown : w.ownsRow base e size (.slice ao n co) n xs)
  (a : Option Addr) (m c : Nat) (rows : List (List Value)) (hr : RowsAt w size (.slice a m c) rows) (hl : ∀ r ∈ rows, r.length = size) (h1 : ∀ u ∈ rows.flatten, u.oneCell' = true)
  (h63 : n + m ≤ maxLen) (hbytes : (n + m) * bytes ≤ 140737488355328) (hbase : base ≤ w.heap.size) :
  ∃ a' c' w', (Builtin.append_ #[t, t] ty #[.slice ao n co, .slice a m c]).run P w = .ok (.slice a' (n + m) c') w' ∧ w'.ownsRow base e size (.slice a' (n + m) c') (n + m) (xs ++ rows.flatten) ∧
   Kept (fun k => (Value.slice ao n co).ownBlock = some k) w w' ∧ ((Value.slice a' (n + m) c').ownBlock = (Value.slice ao n co).ownBlock ∨ ∃ g, (Value.slice a' (n + m) c').ownBlock = some g ∧ w.heap.size ≤ g) ∧
   w'.ownsRow base e size (.slice ao n co) n xs := by
 obtain ⟨a', c', w', hrun, h2, h3, h4⟩ := append_any w t ty base e i z size bytes ht hi hz hsize hby hzs hsz ao n co xs hown a m c rows hr hl h1 h63 hbytes hbase
 refine ⟨a', c', w', hrun, h2, h3, h4, ?_⟩
 have hm : m = rows.length := hr.len
 by_cases h0 : rows = []
 ·subst h0
  simp only [List.length_nil] at hm
  subst hm
  have hle : n ≤ co := by
   rcases hown.2 with ⟨h, hn⟩ | ⟨g, cap, cur, hv, _, _, hnc, _⟩
   ·simp only [Value.slice.injEq] at h; omega
   ·simp only [Value.slice.injEq] at hv; omega
  have hs : Src P i.size t (.slice a 0 c) 0 [] w := by
   cases a with
   | none => exact Src.ofNil w ht c
   | some a => exact Src.ofSlice w ht a 0 c [] (by simp) (by simp) (by simp)
  have he := run_append_nothing w t t ty e i ht hi ao n co hle (.slice a 0 c) hs
  have hq := hrun.symm.trans he
  injection hq with _ hw
  subst hw
  exact hown
 ·obtain ⟨b, off, rfl⟩ := hr.addr h0
  exact append_stays w t ty base e i z size bytes ht hi hz hsize hby (.slice ao n co) n xs hown ⟨b, off, none⟩ m c rows.flatten (by rw [flatten_len size rows hl, hm]) (hr.news hl) h1 h63 hbytes _ w' hrun
end
def StrsIn (w : World) (X : Nat → Prop) (v : Value) (ss : List B) : Prop := StrsAt w v ss ∧ ∀ k, v.ownBlock = some k → ¬ X k ∧ k < w.heap.size
theorem strsIn_lasts : Lasts StrsIn := fun w w' X X' S v ds h hk hS hX =>
 ⟨RowsAt.kept h.1 hk (fun k hk' hs => (h.2 k hk').1 (hS k (h.2 k hk').2 hs)), fun k hk' => ⟨fun hx => (h.2 k hk').1 (hX k (h.2 k hk').2 hx), Nat.lt_of_lt_of_le (h.2 k hk').2 hk.size⟩⟩
def setCells (_ : List B) (v : Value) : List Value := [v]
theorem setCells_len (s : List B) (v : Value) : (setCells s v).length = 1 := rfl
theorem info_strs : (Tryz.prog.info? 58).map (fun i => (i.zero, i.size, i.bytes)) = some (some (.slice none 0 0), 1, 24) := by kernel_rfl
def SetsIn (w : World) (X : Nat → Prop) (v : Value) (ss : List (List B)) : Prop := NestIn setCells 1 StrsIn w X v ss
theorem zip_sets : ∀ (xs : List (List B)) (vs : List Value), vs.length = xs.length → (List.zipWith setCells xs vs).flatten = vs
 | [], [], _ => rfl
 | [], _ :: _, h => by simp at h
 | _ :: _, [], h => by simp at h
 | x :: xs, v :: vs, h => by
  simp only [List.length_cons, Nat.add_right_cancel_iff] at h
  rw [List.zipWith_cons_cons, List.flatten_cons, zip_sets xs vs h]
  rfl
theorem SetsIn.at {w : World} {X : Nat → Prop} {v : Value} {ss : List (List B)} (h : SetsIn w X v ss) {i : Nat} {s : List B} (hx : ss[i]? = some s) : ∃ b off cap u, v = .slice (some ⟨b, off, none⟩) ss.length cap ∧ w.cell? ⟨b, off + i, none⟩ = some u ∧ StrsAt w u s := by
 obtain ⟨vs, h1, ⟨a, cap, hv, h2, h3, h4⟩, _, h5⟩ := h
 have hi : i < vs.length := by rw [h1]; exact (List.getElem?_eq_some_iff.1 hx).1
 have hu := List.getElem?_eq_getElem hi
 have hz : (List.zipWith setCells ss vs)[i]? = some [vs[i]] := by
  rw [List.getElem?_zipWith, hx, hu]; rfl
 obtain ⟨b, off, ha, hc⟩ := h4 (by intro hn; rw [hn] at hz; simp at hz)
 have := hc i _ hz 0 vs[i] rfl
 rw [Nat.mul_one, Nat.add_zero] at this
 refine ⟨b, off, cap, vs[i], ?_, this, (h5 i s _ hx hu).1⟩
 rw [hv, ha, List.length_zipWith, h1, Nat.min_self]
theorem sets_old {w : World} {base e : Nat} {v : Value} {xs ys : List (List B)} {vs us : List Value} (h : NestOwn setCells 1 e StrsIn w base v (xs ++ ys) (vs ++ us)) (hl : vs.length = xs.length) {b : Nat} {oa : Option Addr} {oc : Nat} (ho : w.ownsRow b e 1 (.slice oa xs.length oc) xs.length vs)
  {i : Nat} {x : List B} (hx : xs[i]? = some x) : ∃ g u, oa = some ⟨g, 0, none⟩ ∧ w.cell? ⟨g, i, none⟩ = some u ∧ StrsIn w (fun k => k < base ∨ v.ownBlock = some k) u x := by
 have hi := (List.getElem?_eq_some_iff.1 hx).1
 have hiv : i < vs.length := by rw [hl]; exact hi
 have hu := List.getElem?_eq_getElem hiv
 have hq := h.nest i x vs[i] (by rw [List.getElem?_append_left hi]; exact hx) (by rw [List.getElem?_append_left hiv]; exact hu)
 rcases ho.2 with ⟨hv, hn⟩ | ⟨g, cap, cur, hv, _⟩
 ·omega
 ·simp only [Value.slice.injEq] at hv
  obtain ⟨rfl, _, rfl⟩ := hv
  exact ⟨g, vs[i], rfl, by rw [ho.cellAt i (by omega)]; exact hu, hq⟩
structure SgW (base : Nat) (w0 wr : World) (v : Value) (ss : List B) : Prop where
 own : wr.ownsRow base 9 1 v ss.length (ss.map fun x => [Value.string (str x)]).flatten
 kept : Kept (fun _ => False) w0 wr
 low : w0.heap.size ≤ base
theorem SgW.start (w : World) : SgW w.heap.size w w (.slice none 0 0) [] := ⟨World.ownsRow_nil _ _ _ _, Kept.refl _ _, Nat.le_refl _⟩
theorem SgW.still {base : Nat} {w0 wr wx : World} {v : Value} {ss : List B} (h : SgW base w0 wr v ss) (hk : Kept (fun _ => False) wr wx) : SgW base w0 wx v ss := ⟨owns_kept h.own hk (fun _ _ => id), h.kept.trans hk, h.low⟩
theorem SgW.form {base : Nat} {w0 wr : World} {v : Value} {ss : List B} (h : SgW base w0 wr v ss) : ∃ ao ac, v = .slice ao ss.length ac := by
 rcases h.own.2 with ⟨rfl, hn⟩ | ⟨g, cap, cur, rfl, _⟩
 ·exact ⟨none, 0, by rw [hn]⟩
 ·exact ⟨_, cap, rfl⟩
theorem SgW.reads {base : Nat} {w0 wr : World} {v : Value} {ss : List B} (h : SgW base w0 wr v ss) : StrsAt wr v ss :=
 rowsAt_of_owns (fun r hr => by obtain ⟨a, _, rfl⟩ := List.mem_map.1 hr; rfl) (by simp) h.own
theorem flat1 : ∀ ns : List B, (ns.map fun x => [Value.string (str x)]).flatten = ns.map fun x => Value.string (str x)
 | [] => rfl
 | y :: ys => by rw [List.map_cons, List.flatten_cons, List.map_cons, flat1 ys]; rfl
theorem rows_lit {w : World} {b size : Nat} {rows : List (List Value)} {cs : Array Value} {t : TypeId} {fz : Nat × Nat} (h : w.heap[b]? = some (.cells cs t fz)) (hc : cs = rows.flatten.toArray) (hl : ∀ r ∈ rows, r.length = size) {n : Nat} (hn : n = rows.length) (hm : rows.length ≤ maxLen) :
  RowsAt w size (.slice (some ⟨b, 0, none⟩) n n) rows := by
 subst hn
 refine ⟨_, _, rfl, Nat.le_refl _, hm, fun _ => ⟨_, _, rfl, fun i r hr j c hj => ?_⟩⟩
 subst hc
 rw [show 0 + i * size + j = i * size + j by omega]
 exact cellIn h _ (by rw [List.getElem?_toArray]; exact flatten_get size rows hl i r hr j c hj)
theorem SgW.push {base : Nat} {w0 wr : World} {ao : Option Addr} {ac : Nat} {ss : List B} (h : SgW base w0 wr (.slice ao ss.length ac) ss) (hb : base ≤ wr.heap.size) (ns : List B) (n : Nat) (hnl : ns.length = n) (hn : 0 < n) (cs : Array Value) (hcs : cs = (ns.map fun x => Value.string (str x)).toArray) (hq : ss.length + n ≤ 4398100000000) :
  ∃ a' c' w', (Builtin.append_ #[58, 58] 58 #[.slice ao ss.length ac, .slice (some ⟨wr.heap.size, 0, none⟩) n n]).run Tryz.prog (wr.alloc (.cells cs 9 (0, 0))) = .ok (.slice a' (ss.length + n) c') w' ∧ SgW base w0 w' (.slice a' (ss.length + n) c') (ss ++ ns) ∧ Kept (fun k => (Value.slice ao ss.length ac).ownBlock = some k) wr w' := by
 subst hcs
 obtain ⟨i0, hi0, hz0, hz1, hz2⟩ := info_parts info_str
 obtain ⟨wa, HWA⟩ : ∃ x, wr.alloc (.cells (ns.map fun x => Value.string (str x)).toArray 9 (0, 0)) = x := ⟨_, rfl⟩
 have hbk : wa.heap[wr.heap.size]? = some (.cells (ns.map fun x => Value.string (str x)).toArray 9 (0, 0)) := by rw [← HWA]; exact newIn wr _
 have hka : Kept (fun _ => False) wr wa := by rw [← HWA]; exact (Kept.refl _ wr).alloc _
 obtain ⟨h2, hk, hlow⟩ := h.still hka
 have hfl := flat1 ns
 obtain ⟨a', c', w', hr', ho', k', _⟩ := append_any (P := Tryz.prog) wa 58 58 base 9 i0 _ 1 16 Tryz.underlying58 hi0 hz0 hz1 hz2 rfl (by omega) ao ss.length ac _ h2 (some ⟨wr.heap.size, 0, none⟩) n n (ns.map fun x => [Value.string (str x)]) (rows_lit hbk (by rw [hfl]) (by intro r hr; obtain ⟨a, _, rfl⟩ := List.mem_map.1 hr; rfl) (by simp [hnl]) (by rw [List.length_map, hnl]; unfold maxLen; omega)) (by intro r hr; obtain ⟨a, _, rfl⟩ := List.mem_map.1 hr; rfl) (by rw [hfl]; intro u hu; obtain ⟨a, _, rfl⟩ := List.mem_map.1 hu; rfl) (by unfold maxLen; omega) (by omega) (Nat.le_trans hb hka.size)
 rw [HWA]
 refine ⟨a', c', w', hr', ⟨?_, hk.trans' k' (fun i hi hx => ?_), hlow⟩, ((Kept.refl _ wr).alloc _).trans (HWA ▸ k')⟩
 ·rw [List.length_append, List.map_append, List.flatten_append, hnl]
  exact ho'
 ·have := (h2.lt i hx).1; omega
theorem own_prefix {w w' : World} {base b e size : Nat} (hsz : 0 < size) {g n m cap cap' : Nat} {xs ys : List Value} (h : w.ownsRow base e size (.slice (some ⟨g, 0, none⟩) n cap) n xs) (ho : w.ownsRow b e size (.slice (some ⟨g, 0, none⟩) m cap') m ys) (hmn : m ≤ n) (h' : w'.ownsRow base e size (.slice (some ⟨g, 0, none⟩) n cap) n xs) :
  w'.ownsRow b e size (.slice (some ⟨g, 0, none⟩) m cap') m ys := by
 rcases h.2 with ⟨hv, _⟩ | ⟨g1, c1, cur, hv, hb1, hh, hn1, hc1, hs1, ht1⟩
 ·cases hv
 ·cases hv
  rcases ho.2 with ⟨hv, _⟩ | ⟨g2, c2, cur2, hv, hb2, hh2, hn2, hc2, hs2, ht2⟩
  ·cases hv
  ·cases hv
   rcases h'.2 with ⟨hv, _⟩ | ⟨g3, c3, cur3, hv, hb3, hh3, hn3, hc3, hs3, ht3⟩
   ·cases hv
   ·cases hv
    rw [hh] at hh2
    cases hh2
    have hcc : cap = cap' := Nat.eq_of_mul_eq_mul_right hsz (hs1.symm.trans hs2)
    subst hcc
    refine ⟨ho.1, .inr ⟨g, cap, cur3, rfl, hb2, hh3, hn2, hc2, hs3, ?_⟩⟩
    rw [← ht2]
    have hle : m * size ≤ n * size := Nat.mul_le_mul_right _ hmn
    have e1 : cur3.toList.take (m * size) = (cur3.toList.take (n * size)).take (m * size) := by rw [List.take_take, Nat.min_eq_left hle]
    have e2 : cur.toList.take (m * size) = (cur.toList.take (n * size)).take (m * size) := by rw [List.take_take, Nat.min_eq_left hle]
    rw [e1, e2, ht3, ht1]
structure SsW (base : Nat) (w0 wr : World) (v : Value) (xs : List (List B)) (vs : List Value) : Prop where
 nest : NestOwn setCells 1 58 StrsIn wr base v xs vs
 kept : Kept (fun _ => False) w0 wr
 low : w0.heap.size ≤ base
theorem SsW.still {base : Nat} {w0 wr wx : World} {v : Value} {xs : List (List B)} {vs : List Value} (h : SsW base w0 wr v xs vs) (hk : Kept (fun _ => False) wr wx) : SsW base w0 wx v xs vs :=
 ⟨⟨h.nest.len, owns_kept h.nest.own hk (fun _ _ => id), fun i x u hx hu => strsIn_lasts _ _ _ _ (fun _ => False) _ _ (h.nest.nest i x u hx hu) hk (fun k _ hs => hs.elim) (fun k _ hx => hx)⟩, h.kept.trans hk, h.low⟩
theorem SsW.push (tt : TypeId) (htt : Tryz.prog.underlying tt = some (.slice 58)) {base : Nat} {w0 wr : World} {ao : Option Addr} {ac : Nat} {xs : List (List B)} {vs : List Value} (h : SsW base w0 wr (.slice ao xs.length ac) xs vs) (hb : base ≤ wr.heap.size) {x : List B} {u : Value} (hu : StrsIn wr (fun k => k < base ∨ (Value.slice ao xs.length ac).ownBlock = some k) u x) (hu1 : u.oneCell' = true) (hq : xs.length ≤ 4398046511104)
  {b1 m oc : Nat} {oa : Option Addr} {ys : List Value} (ho : wr.ownsRow b1 58 1 (.slice oa m oc) m ys) (hm : m ≤ xs.length) (hb1 : w0.heap.size ≤ b1) :
  ∃ a' c' w', (Builtin.append_ #[tt, tt] tt #[.slice ao xs.length ac, .slice (some ⟨wr.heap.size, 0, none⟩) 1 1]).run Tryz.prog (wr.alloc (.cells #[u] 58 (0, 0))) = .ok (.slice a' (xs.length + 1) c') w' ∧ SsW base w0 w' (.slice a' (xs.length + 1) c') (xs ++ [x]) (vs ++ [u]) ∧
   w'.ownsRow b1 58 1 (.slice oa m oc) m ys := by
 obtain ⟨i0, hi0, hz0, hz1, hz2⟩ := info_parts info_strs
 obtain ⟨wa, HWA⟩ : ∃ x, wr.alloc (.cells #[u] 58 (0, 0)) = x := ⟨_, rfl⟩
 have hbk : wa.heap[wr.heap.size]? = some (.cells #[u] 58 (0, 0)) := by rw [← HWA]; exact newIn wr _
 have hka : Kept (fun _ => False) wr wa := by rw [← HWA]; exact (Kept.refl _ wr).alloc _
 have ho2 := owns_kept ho hka (fun _ _ => id)
 obtain ⟨h2, hk, hlow⟩ := h.still hka
 have hu2 := strsIn_lasts _ _ _ (fun k => k < base ∨ (Value.slice ao xs.length ac).ownBlock = some k) (fun _ => False) _ _ hu hka (fun k _ hs => hs.elim) (fun k _ hx => hx)
 have hown := h2.own
 rw [zip_sets xs vs h2.len] at hown
 obtain ⟨a', c', w', hr', ho', k', hat, hst⟩ := append_stays_any (P := Tryz.prog) wa tt tt base 58 i0 _ 1 24 htt hi0 hz0 hz1 hz2 rfl (by omega) ao xs.length ac _ hown (some ⟨wr.heap.size, 0, none⟩) 1 1 [[u]] (rows_lit hbk rfl (by simp) rfl (by simp [maxLen])) (by simp) (by simpa using hu1) (by unfold maxLen; omega) (by omega) (Nat.le_trans hb hka.size)
 rw [HWA]
 have new : ∀ {y : List B} {z : Value}, StrsIn wa (fun k => k < base ∨ (Value.slice ao xs.length ac).ownBlock = some k) z y → StrsIn w' (fun k => k < base ∨ (Value.slice a' (xs.length + 1) c').ownBlock = some k) z y := fun hq =>
  ⟨RowsAt.kept hq.1 k' (fun k hk hs => (hq.2 k hk).1 (.inr hs)), fun k hk => ⟨fun hx => by
   rcases hx with hx | hx
   ·exact (hq.2 k hk).1 (.inl hx)
   ·rcases hat with h1 | ⟨g, h1, h3⟩
    ·rw [h1] at hx; exact (hq.2 k hk).1 (.inr hx)
    ·rw [h1] at hx; cases hx; have := (hq.2 k hk).2; omega, Nat.lt_of_lt_of_le (hq.2 k hk).2 k'.size⟩⟩
 refine ⟨a', c', w', hr', ⟨⟨by simp [h2.len], ?_, fun i y z hy hz => ?_⟩, hk.trans' k' (fun i hi hx => ?_), hlow⟩, ?_⟩
 ·rw [zip_sets _ _ (by simp [h2.len]), List.length_append]
  simpa using ho'
 ·by_cases hi : i < xs.length
  ·rw [List.getElem?_append_left hi] at hy
   rw [List.getElem?_append_left (by rw [h2.len]; exact hi)] at hz
   exact new (h2.nest i y z hy hz)
  ·have hi2 := (List.getElem?_eq_some_iff.1 hy).1
   simp at hi2
   have : i = xs.length := by omega
   subst this
   simp at hy
   rw [← h2.len] at hz
   simp at hz
   subst hy; subst hz
   exact new hu2
 ·have := (hown.lt i hx).1; omega
 ·rcases ho2.2 with ⟨hv, hn⟩ | ⟨g, cap, cur, hv, _⟩
  ·simp only [Value.slice.injEq] at hv
   obtain ⟨rfl, rfl, rfl⟩ := hv
   exact ⟨ho2.1, .inl ⟨rfl, rfl⟩⟩
  ·simp only [Value.slice.injEq] at hv
   obtain ⟨rfl, _, rfl⟩ := hv
   by_cases hsame : (Value.slice ao xs.length ac).ownBlock = some g
   ·rcases hown.2 with ⟨hv, _⟩ | ⟨g4, cap4, cur4, hv, _⟩
    ·rw [hv] at hsame; cases hsame
    ·simp only [Value.slice.injEq] at hv
     obtain ⟨rfl, _, rfl⟩ := hv
     simp only [Value.ownBlock, Option.some.injEq] at hsame
     subst hsame
     exact own_prefix (by omega) hown ho2 hm hst
   ·exact owns_kept ho2 k' (fun k hk hs => by
     simp only [Value.ownBlock, Option.some.injEq] at hk
     subst hk; exact hsame hs)
set_option maxRecDepth 100000 in
set_option maxHeartbeats 1600000 in
theorem rget_any (w : World) (v : Value) (n : PNode) (nm : B) (hv : AttrsAt w v n.attrs) :
  Calls Tryz.prog 55 #[.agg #[.string (str n.name), .int .i64 n.parent, v, .int .i64 n.nameEnd, .int .i64 n.inF, .int .i64 n.inT], .string (str nm)] w fun e w' => e = .returned (.tuple #[.string (str (pGet n.attrs nm).1), .bool (pGet n.attrs nm).2]) ∧ Kept (fun _ => False) w w' := by
 obtain ⟨a, cap, rfl, hle, hcap⟩ := hv.form
 obtain ⟨name, parent, al, nameEnd, inF, inT⟩ := n
 simp only at hv hle ⊢
 unfold maxLen at hcap
 obtain ⟨wa, HWA⟩ : ∃ x', Hid (w.alloc (.cells #[.string (str name), .int .i64 parent, .slice a al.length cap, .int .i64 nameEnd, .int .i64 inF, .int .i64 inT] 45 (0, 0)) = x') := ⟨_, rfl⟩
 have ka : Kept (fun _ => False) w wa := by rw [← HWA.out]; exact (Kept.refl _ w).alloc _
 have hh : wa.heap[w.heap.size]? = some (.cells #[.string (str name), .int .i64 parent, .slice a al.length cap, .int .i64 nameEnd, .int .i64 inF, .int .i64 inT] 45 (0, 0)) := by rw [← HWA.out]; exact newIn w _
 have n2 : wa.cell? ⟨w.heap.size, 2, none⟩ = some (.slice a al.length cap) := cellIn hh 2 rfl
 have HV : Hid (AttrsAt wa (.slice a al.length cap) al) := Lib.hid (RowsAt.below hv ka.below)
 have KA := Lib.hid ka
 clear hv ka hh
 go_enter Tryz.func55, Tryz.ntmps55
 go_upto_region 1 with fail
 rw [HWA.out]
 go_wp2_with fail
 go_loopw [10] (fun i wr => ∃ k : Nat, k ≤ al.length ∧ i = .int .i64 k ∧ wr = wa ∧ Hid (∀ j y, j < k → al[j]? = some y → (y.name == nm) = false)) (fun i _ => al.length - (intOf i).toNat)
 case atStart => exact ⟨0, by omega, rfl, rfl, Lib.hid fun j y hj => by omega⟩
 case round =>
  obtain ⟨k, hk, rfl, rfl, HH⟩ := hrel
  by_cases hlt : k < al.length
  ·have hx := List.getElem?_eq_getElem hlt
   generalize hgx : al[k] = x at hx
   clear hgx
   obtain ⟨b, off, rfl, g0, g1, g2, g3⟩ := AttrsAt.at HV.out hx
   have HX := Lib.hid hx
   clear hx g2 g3
   cases hc : (x.name == nm) with
   | true =>
    go_wp2_with fail
    refine bodyPost_ret (v := .tuple #[.string (str x.val), .bool true]) (by simp [results, Tryz.results55, go_sem]) rfl ?_
    exact ⟨retpair (a := (x.val, true)) (pGet_hit HH.out HX.out hc).symm, KA.out⟩
   | false =>
    go_wp2_with fail
    go_roundw
    case rel =>
     refine ⟨k + 1, by omega, by go_num, by trivial, Lib.hid fun j y hj hy => ?_⟩
     by_cases hjk : j = k
     ·subst hjk
      rw [HX.out] at hy; cases hy
      exact hc
     ·exact HH.out j y (by omega) hy
    case measure => simp [intOf]; omega
  ·go_wp2_with fail
   refine bodyPost_ret (v := .tuple #[.string (str []), .bool false]) (by simp [results, Tryz.results55, go_sem]; rfl) rfl ?_
   refine ⟨retpair (b := pGet al nm) (a := ([], false)) ?_, KA.out⟩
   rw [pGet_miss (fun j y hy => HH.out j y (by have := (List.getElem?_eq_some_iff.1 hy).1; omega) hy)]
set_option maxRecDepth 100000 in
set_option maxHeartbeats 1600000 in
theorem rahead_any (w : World) (v : Value) (ns : List PNode) (k : Int) (hv : NodesAt w v ns) (hk : -9223372036854775808 ≤ k ∧ k ≤ 9223372036854775807) :
  Calls Tryz.prog 147 #[v, .int .i64 k] w (AheadEnds w (pAhead ns k)) := by
 have HV := Lib.hid hv
 obtain ⟨a, cap, rfl, hle, hcap⟩ := hv.form
 unfold maxLen at hcap
 clear hv
 obtain ⟨hk1, hk2⟩ := hk
 obtain ⟨r, HR⟩ : ∃ r, Hid (pAhead ns k = r) := ⟨_, rfl⟩
 rw [HR.out]
 by_cases h1 : (ns.length : Int) ≤ k
 ·have hR : Hid (-1 = r) := Lib.hid (by rw [← HR.out]; unfold pAhead; rw [if_pos (.inr h1)])
  by_cases h0 : 0 < k
  ·go_enter Tryz.func147, Tryz.ntmps147
   go_wp2_with fail
   go_loopw [5, 6] (fun o i wr => o = .int .i64 (-1) ∧ i = .int .i64 0 ∧ wr = w) (fun _ i _ => 0)
   case atStart => exact ⟨rfl, rfl, rfl⟩
   case round =>
    obtain ⟨rfl, rfl, rfl⟩ := hrel
    go_wp2_with fail
    go_ret
    exact ⟨reti hR.out, Qt.refl _⟩
  ·go_enter Tryz.func147, Tryz.ntmps147
   go_wp2_with fail
   go_loopw [5, 6] (fun o i wr => o = .int .i64 (-1) ∧ i = .int .i64 0 ∧ wr = w) (fun _ i _ => 0)
   case atStart => exact ⟨rfl, rfl, rfl⟩
   case round =>
    obtain ⟨rfl, rfl, rfl⟩ := hrel
    go_wp2_with fail
    go_ret
    exact ⟨reti hR.out, Qt.refl _⟩
 ·by_cases h0 : k < 0
  ·have hR : Hid (-1 = r) := Lib.hid (by rw [← HR.out]; unfold pAhead; rw [if_pos (.inl h0)])
   go_enter Tryz.func147, Tryz.ntmps147
   go_wp2_with fail
   go_loopw [5, 6] (fun o i wr => o = .int .i64 (-1) ∧ i = .int .i64 0 ∧ wr = w) (fun _ i _ => 0)
   case atStart => exact ⟨rfl, rfl, rfl⟩
   case round =>
    obtain ⟨rfl, rfl, rfl⟩ := hrel
    go_wp2_with fail
    go_ret
    exact ⟨reti hR.out, Qt.refl _⟩
  ·obtain ⟨kn, rfl⟩ : ∃ n : Nat, k = n := ⟨k.toNat, by omega⟩
   have hkl : kn < ns.length := by omega
   have hx := List.getElem?_eq_getElem hkl
   generalize hgx : ns[kn] = x at hx
   clear hgx
   obtain ⟨b, off, av, rfl, g0, g1, g2, g3, g4, g5, hav⟩ := HV.out.at hx
   have hr : Hid (lastWith ns x.parent kn = r) := Lib.hid (by
    have := HR.out
    unfold pAhead at this
    rw [if_neg (by omega), Int.toNat_natCast, hx] at this
    exact this)
   have HX := Lib.hid hx
   clear hx g0 g1 g2 g3 g4 g5 hav
   go_enter Tryz.func147, Tryz.ntmps147
   go_wp2_with fail
   go_loopw [5, 6] (fun o i wr => ∃ j : Nat, j ≤ kn ∧ i = .int .i64 (j : Int) ∧ o = .int .i64 (lastWith ns x.parent j) ∧ Hid (Qt w wr)) (fun _ i _ => kn - (intOf i).toNat)
   case atStart => exact ⟨0, by omega, rfl, rfl, Lib.hid (Qt.refl _)⟩
   case round =>
    obtain ⟨j, hj, rfl, rfl, HQ⟩ := hrel
    obtain ⟨wr0, hwr0⟩ : ∃ x, x = wr := ⟨_, rfl⟩
    subst hwr0
    by_cases hlt : j < kn
    ·have hy := List.getElem?_eq_getElem (show j < ns.length by omega)
     generalize hgy : ns[j] = y at hy
     clear hgy
     obtain ⟨b2, off2, av2, hbb, g0, q1, g2, g3, g4, g5, hav⟩ := (HV.out.quiet HQ.out).at hy
     cases hbb
     obtain ⟨b3, off3, av3, hbb, g0', p1, g2', g3', g4', g5', hav'⟩ := (HV.out.quiet HQ.out).at HX.out
     cases hbb
     clear g0 g2 g3 g4 g5 hav g0' g2' g3' g4' g5' hav'
     obtain ⟨q, HQL⟩ : ∃ q, Hid (lastWith ns x.parent j = q) := ⟨_, rfl⟩
     have hnx : Hid (lastWith ns x.parent (j + 1) = if (y.parent == x.parent) = true then (j : Int) else q) := Lib.hid (by
      rw [← HQL.out, lastWith, hy]; rfl)
     rw [HQL.out]
     clear hy
     cases hc : (y.parent == x.parent) with
     | true =>
      rw [hc] at hnx
      go_wp2_with fail
      go_quiet (fail)
      go_wp2_with fail
      go_roundw
      case rel => exact ⟨j + 1, by omega, by go_num, by rw [hnx.out]; rfl, Lib.hid (Qt.trans HQ.out ⟨nq, rfl⟩)⟩
      case measure => simp [intOf]; omega
     | false =>
      rw [hc] at hnx
      go_wp2_with fail
      go_quiet (fail)
      go_wp2_with fail
      go_roundw
      case rel => exact ⟨j + 1, by omega, by go_num, by rw [hnx.out]; rfl, Lib.hid (Qt.trans HQ.out ⟨nq, rfl⟩)⟩
      case measure => simp [intOf]; omega
    ·obtain rfl : j = kn := by omega
     go_wp2_with fail
     go_ret
     exact ⟨reti hr.out, HQ.out⟩
end Go.Proofs.YtplbdlgmjehckacGreatDoor

