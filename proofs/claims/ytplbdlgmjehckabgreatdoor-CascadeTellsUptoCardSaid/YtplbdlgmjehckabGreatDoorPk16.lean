/-
  Lemmas for the claims of this seat: the program's functions walked, and plain laws. In this order: CaRef R3LookP R3Won.
-/
import Derived.Test.YtplbdlgmjehckabGreatDoorPk10
import Derived.Deep.DeepCutAuto
import Derived.Deep.CutBlock
namespace Go.Proofs.YtplbdlgmjehckabGreatDoor
set_option linter.unusedVariables false
set_option linter.unusedSimpArgs false
def RWins (cs : List PClaim) (i : Nat) (c : PClaim) : Prop := ∀ (j : Nat) (o : PClaim), cs[j]? = some o → o.d.name = c.d.name → (i < j → beats o c = false) ∧ (j < i → beats c o = true)
theorem wIdx_wins (cs : List PClaim) (n : B) : ∀ i, i ≤ cs.length → ∀ (j : Nat) (a : PClaim), wIdx cs n i = some j → cs[j]? = some a → ∀ (l : Nat) (o : PClaim), l < i → cs[l]? = some o → o.d.name = n → (j < l → beats o a = false) ∧ (l < j → beats a o = true)
  | 0, _, j, a, h, _ => by cases h
  | i + 1, hi, j, a, h, ha => by
    have hc : cs[i]? = some cs[i] := List.getElem?_eq_getElem (by omega)
    have ih := wIdx_wins cs n i (by omega)
    rw [wIdx_succ cs n hc] at h
    intro l o hl ho hon
    split at h
    · rename_i hn
      split at h
      · rename_i hb
        have hnone := wIdx_bound (by omega) hb
        cases h
        rw [hc] at ha; cases ha
        refine ⟨fun h => by omega, fun h => ?_⟩
        exfalso
        have hw := wIdx_winner cs n i (by omega)
        rw [hb] at hw
        have hf := winner_fact (cs.take i) n
        rw [← hw] at hf
        refine hf o ?_ hon
        refine List.mem_of_getElem? (i := l) ?_
        rw [List.getElem?_take, if_pos h]; exact ho
      · rename_i b hb
        obtain ⟨q, hq, hqb⟩ := Option.bind_eq_some_iff.1 hb
        have hql := wIdx_lt cs n i q (by omega) hq
        split at h
        · rename_i hbt
          cases h
          rw [hc] at ha; cases ha
          refine ⟨fun h => by omega, fun h => ?_⟩
          have hq2 := ih q b hq hqb l o h ho hon
          rcases Nat.lt_trichotomy l q with h1 | h1 | h1
          · exact beats_trans (hq2.2 h1) hbt
          · subst h1
            rw [hqb] at ho; cases ho; exact hbt
          · have h3 := (beats_total b o).resolve_left (by rw [hq2.1 h1]; simp)
            exact beats_trans h3 hbt
        · rename_i hbt
          rw [hq] at h; cases h
          rw [hqb] at ha; cases ha
          by_cases hli : l = i
          · subst hli
            rw [hc] at ho; cases ho
            exact ⟨fun _ => by simpa using hbt, fun h => by omega⟩
          · exact ih _ _ hq hqb l o (by omega) ho hon
    · rename_i hn
      by_cases hli : l = i
      · subst hli
        rw [hc] at ho; cases ho
        exact absurd hon hn
      · exact ih j a h ha l o (by omega) ho hon
theorem wins_iff {cs : List PClaim} {i : Nat} {c : PClaim} (hc : cs[i]? = some c) : RWins cs i c ↔ wIdx cs c.d.name cs.length = some i := by
  have hil := (List.getElem?_eq_some_iff.1 hc).1
  constructor
  · intro h
    have hw := wIdx_winner cs c.d.name cs.length (Nat.le_refl _)
    rw [List.take_length] at hw
    cases hx : wIdx cs c.d.name cs.length with
    | none =>
      rw [hx] at hw
      have hf := winner_fact cs c.d.name
      rw [← hw] at hf
      exact absurd rfl (hf c (List.mem_of_getElem? hc))
    | some j =>
      obtain ⟨hj, hn⟩ := wIdx_lt cs _ _ j (Nat.le_refl _) hx
      have ha : cs[j]? = some cs[j] := List.getElem?_eq_getElem hj
      rw [ha] at hn
      have hn' : cs[j].d.name = c.d.name := by simpa using hn
      have h1 := wIdx_wins cs _ _ (Nat.le_refl _) j _ hx ha i c hil hc rfl
      have h2 := h j _ ha hn'
      rcases Nat.lt_trichotomy i j with g | g | g
      · have := h2.1 g
        rw [h1.2 g] at this; cases this
      · rw [g]
      · have := h2.2 g
        rw [h1.1 g] at this; cases this
  · intro h j o ho hon
    exact wIdx_wins cs _ _ (Nat.le_refl _) i c h hc j o (List.getElem?_eq_some_iff.1 ho).1 ho hon
def rIns (x : PDecl) : List PDecl → List PDecl
  | [] => [x]
  | y :: ys => if bLt y.name x.name = true then y :: rIns x ys else x :: y :: ys
theorem mem_rIns {x d : PDecl} : ∀ {ys : List PDecl}, d ∈ rIns x ys ↔ d = x ∨ d ∈ ys
  | [] => by simp [rIns]
  | y :: ys => by
    unfold rIns
    split
    · simp only [List.mem_cons, mem_rIns (ys := ys)]
      constructor
      · rintro (h | h | h) <;> simp [h]
      · rintro (h | h | h) <;> simp [h]
    · simp
theorem rIns_rising {x : PDecl} : ∀ {ys : List PDecl}, Rising (ys.map (·.name)) → (∀ y ∈ ys, y.name ≠ x.name) → Rising ((rIns x ys).map (·.name))
  | [], _, _ => .cons (by simp) .nil
  | y :: ys, .cons h hs, hne => by
    unfold rIns
    split
    · rename_i hb
      refine .cons (fun n hn => ?_) (rIns_rising hs (fun z hz => hne z (by simp [hz])))
      obtain ⟨d, hd, rfl⟩ := List.mem_map.1 hn
      rcases mem_rIns.1 hd with rfl | hd
      · exact hb
      · exact h _ (List.mem_map.2 ⟨d, hd, rfl⟩)
    · rename_i hb
      have hxy : bLt x.name y.name = true := by
        cases hh : bLt x.name y.name with
        | true => rfl
        | false => exact absurd (bLt_total hh (by simpa using hb)).symm (hne y (by simp))
      refine .cons (fun n hn => ?_) (.cons h hs)
      simp only [List.map_cons, List.mem_cons] at hn
      rcases hn with rfl | hn
      · exact hxy
      · exact bLt_trans hxy (h n hn)
open Classical in
noncomputable def rLook (cs : List PClaim) : Nat → List PDecl
  | 0 => []
  | i + 1 => match cs[i]? with
    | none => rLook cs i
    | some c => if wIdx cs c.d.name cs.length = some i then rIns c.d (rLook cs i) else rLook cs i
theorem rLook_fact (cs : List PClaim) : ∀ i, i ≤ cs.length → Rising ((rLook cs i).map (·.name)) ∧ ∀ d, d ∈ rLook cs i ↔ ∃ (j : Nat) (c : PClaim), j < i ∧ cs[j]? = some c ∧ c.d = d ∧ wIdx cs c.d.name cs.length = some j
  | 0, _ => ⟨.nil, fun d => by simp [rLook]⟩
  | i + 1, hi => by
    have hc : cs[i]? = some cs[i] := List.getElem?_eq_getElem (by omega)
    obtain ⟨h1, h2⟩ := rLook_fact cs i (by omega)
    have he : rLook cs (i + 1) = if wIdx cs cs[i].d.name cs.length = some i then rIns cs[i].d (rLook cs i) else rLook cs i := by
      conv => lhs; unfold rLook
      rw [hc]
    rw [he]
    split
    · rename_i hw
      refine ⟨rIns_rising h1 fun y hy e => ?_, fun d => ?_⟩
      · obtain ⟨j, c, hj, hcj, rfl, hwj⟩ := (h2 y).1 hy
        rw [e, hw] at hwj
        cases hwj; omega
      · rw [mem_rIns, h2]
        constructor
        · rintro (rfl | ⟨j, c, hj, h⟩)
          · exact ⟨i, _, by omega, hc, rfl, hw⟩
          · exact ⟨j, c, by omega, h⟩
        · rintro ⟨j, c, hj, hcj, rfl, hwj⟩
          by_cases hji : j = i
          · subst hji
            rw [hc] at hcj; cases hcj
            exact .inl rfl
          · exact .inr ⟨j, c, by omega, hcj, rfl, hwj⟩
    · rename_i hw
      refine ⟨h1, fun d => ?_⟩
      rw [h2]
      constructor
      · rintro ⟨j, c, hj, h⟩; exact ⟨j, c, by omega, h⟩
      · rintro ⟨j, c, hj, hcj, rfl, hwj⟩
        by_cases hji : j = i
        · subst hji
          rw [hc] at hcj; cases hcj
          exact absurd hwj hw
        · exact ⟨j, c, by omega, hcj, rfl, hwj⟩
theorem rLook_look (cs : List PClaim) : rLook cs cs.length = cLook cs := by
  obtain ⟨h1, h2⟩ := rLook_fact cs cs.length (Nat.le_refl _)
  refine rising_ext_by h1 (by rw [look_names]; exact names_rising cs) fun d => ?_
  rw [h2, look_mem]
  have hw := fun n => wIdx_winner cs n cs.length (Nat.le_refl _)
  simp only [List.take_length] at hw
  constructor
  · rintro ⟨j, c, hj, hcj, rfl, hwj⟩
    exact ⟨c, by rw [← hw, hwj, Option.bind_some, hcj], rfl⟩
  · rintro ⟨c, hc, rfl⟩
    rw [← hw] at hc
    obtain ⟨j, hj, hcj⟩ := Option.bind_eq_some_iff.1 hc
    exact ⟨j, c, (List.getElem?_eq_some_iff.1 hcj).1, hcj, rfl, hj⟩
end Go.Proofs.YtplbdlgmjehckabGreatDoor

namespace Go.Proofs.YtplbdlgmjehckabGreatDoor
set_option linter.unusedVariables false
set_option linter.unusedSimpArgs false
def rHit (cs : List PClaim) (i : Nat) (c : PClaim) (j : Nat) : Bool := match cs[j]? with
  | none => true
  | some o => if o.d.name = c.d.name then (if i < j then !beats o c else if j < i then beats c o else true) else true
def rWinsTo (cs : List PClaim) (i : Nat) (c : PClaim) : Nat → Bool
  | 0 => true
  | j + 1 => rWinsTo cs i c j && rHit cs i c j
theorem rWinsTo_iff (cs : List PClaim) (i : Nat) (c : PClaim) : ∀ n, rWinsTo cs i c n = true ↔ ∀ j, j < n → rHit cs i c j = true
  | 0 => by simp [rWinsTo]
  | n + 1 => by
    simp only [rWinsTo, Bool.and_eq_true, rWinsTo_iff cs i c n]
    constructor
    · rintro ⟨h1, h2⟩ j hj
      by_cases h : j = n
      · exact h ▸ h2
      · exact h1 j (by omega)
    · intro h
      exact ⟨fun j hj => h j (by omega), h n (by omega)⟩
theorem rWins_all {cs : List PClaim} {i : Nat} {c : PClaim} (hc : cs[i]? = some c) : rWinsTo cs i c cs.length = true ↔ wIdx cs c.d.name cs.length = some i := by
  rw [← wins_iff hc, rWinsTo_iff]
  constructor
  · intro h j o ho hon
    have hj := (List.getElem?_eq_some_iff.1 ho).1
    have := h j hj
    unfold rHit at this
    rw [ho] at this
    simp only [hon, if_true] at this
    refine ⟨fun h1 => ?_, fun h1 => ?_⟩
    · rw [if_pos h1] at this; simpa using this
    · rw [if_neg (by omega), if_pos h1] at this; exact this
  · intro h j hj
    have ho := List.getElem?_eq_getElem hj
    unfold rHit
    rw [ho]
    simp only
    split
    · rename_i hon
      have := h j _ ho hon
      split
      · rename_i h1; rw [this.1 h1]; rfl
      · split
        · rename_i h1; exact this.2 h1
        · rfl
    · rfl
theorem rLook_next {cs : List PClaim} {i : Nat} {c : PClaim} (hc : cs[i]? = some c) : rLook cs (i + 1) = if rWinsTo cs i c cs.length = true then rIns c.d (rLook cs i) else rLook cs i := by
  conv => lhs; unfold rLook
  rw [hc]
  simp only
  by_cases h : wIdx cs c.d.name cs.length = some i
  · rw [if_pos h, if_pos ((rWins_all hc).2 h)]
  · rw [if_neg h, if_neg (fun hh => h ((rWins_all hc).1 hh))]
theorem rIns_len (x : PDecl) : ∀ ys : List PDecl, (rIns x ys).length = ys.length + 1
  | [] => rfl
  | y :: ys => by
    unfold rIns
    split
    · simp [rIns_len x ys]
    · simp
theorem rLook_len (cs : List PClaim) : ∀ i, (rLook cs i).length ≤ i
  | 0 => by simp [rLook]
  | i + 1 => by
    have ih := rLook_len cs i
    cases hc : cs[i]? with
    | none =>
      have : rLook cs (i + 1) = rLook cs i := by conv => lhs; unfold rLook
                                                 rw [hc]
      rw [this]; omega
    | some c =>
      rw [rLook_next hc]
      split
      · rw [rIns_len]; omega
      · omega
def rPos (n : B) (ys : List PDecl) : Nat := (ys.takeWhile fun y => bLt y.name n).length
theorem rPos_le (n : B) (ys : List PDecl) : rPos n ys ≤ ys.length := by
  unfold rPos
  induction ys with
  | nil => simp
  | cons y ys ih => rw [List.takeWhile_cons]; split <;> simp; omega
theorem rPos_in (n : B) : ∀ (ys : List PDecl) (j : Nat) (y : PDecl), j < rPos n ys → ys[j]? = some y → bLt y.name n = true
  | [], j, y, h, _ => by simp [rPos] at h
  | x :: ys, j, y, h, hy => by
    unfold rPos at h
    rw [List.takeWhile_cons] at h
    split at h
    · rename_i hx
      cases j with
      | zero => simp at hy; subst hy; exact hx
      | succ j => exact rPos_in n ys j y (by unfold rPos; simpa using h) (by simpa using hy)
    · simp at h
theorem rPos_out (n : B) : ∀ (ys : List PDecl) (y : PDecl), ys[rPos n ys]? = some y → bLt y.name n = false
  | [], y, hy => by simp [rPos] at hy
  | x :: ys, y, hy => by
    unfold rPos at hy
    rw [List.takeWhile_cons] at hy
    split at hy
    · exact rPos_out n ys y (by unfold rPos; simpa using hy)
    · rename_i hx
      simp at hy; subst hy
      simpa using hx
theorem rIns_at (x : PDecl) : ∀ ys : List PDecl, rIns x ys = (ys.take (rPos x.name ys) ++ [x]) ++ ys.drop (rPos x.name ys)
  | [] => by simp [rIns, rPos]
  | y :: ys => by
    have ih := rIns_at x ys
    unfold rIns rPos
    rw [List.takeWhile_cons]
    split
    · rw [ih]
      simp [rPos]
    · simp
end Go.Proofs.YtplbdlgmjehckabGreatDoor

namespace Go.Proofs.YtplbdlgmjehckabGreatDoor
open Go.RowKit
set_option linter.unusedVariables false
set_option linter.unusedSimpArgs false
theorem owns_base {w : World} {base base' e size n : Nat} {v : Value} {xs : List Value} (h : w.ownsRow base' e size v n xs) (hb : base ≤ base') : w.ownsRow base e size v n xs := by
  refine ⟨h.1, ?_⟩
  rcases h.2 with x | ⟨g, cap, cur, hv, hg, rest⟩
  · exact .inl x
  · exact .inr ⟨g, cap, cur, hv, Nat.le_trans hb hg, rest⟩
theorem decl_ones' {ds : List PDecl} : ∀ u ∈ (ds.map declCells).flatten, u.oneCell' = true := by
  intro u hu
  obtain ⟨r, hr, hur⟩ := List.mem_flatten.1 hu
  obtain ⟨d, _, rfl⟩ := List.mem_map.1 hr
  simp only [declCells, List.mem_cons, List.not_mem_nil, or_false] at hur
  rcases hur with rfl | rfl | rfl <;> rfl
theorem decl_len3 {ds : List PDecl} : ∀ r ∈ ds.map declCells, r.length = 3 := by
  intro r hr
  obtain ⟨d, _, rfl⟩ := List.mem_map.1 hr
  rfl
theorem RowsAt.takeN {w : World} {size b off len cap : Nat} {rows : List (List Value)} (h : RowsAt w size (.slice (some ⟨b, off, none⟩) len cap) rows) {n : Nat} (hn : n ≤ len) : RowsAt w size (.slice (some ⟨b, off, none⟩) n cap) (rows.take n) := by
  obtain ⟨a', cap', hv, h1, h2, h3⟩ := h
  simp only [Value.slice.injEq] at hv
  obtain ⟨rfl, rfl, rfl⟩ := hv
  refine ⟨_, _, by rw [List.length_take, Nat.min_eq_left hn], by rw [List.length_take]; omega, h2, fun hne => ?_⟩
  have hne' : rows ≠ [] := fun e => hne (by rw [e]; simp)
  obtain ⟨b', off', hb, h5⟩ := h3 hne'
  cases hb
  refine ⟨_, _, rfl, fun i r hr j c hj => ?_⟩
  rw [List.getElem?_take] at hr
  split at hr
  · exact h5 i r hr j c hj
  · cases hr
theorem RowsAt.dropN {w : World} {size b off len cap : Nat} {rows : List (List Value)} (h : RowsAt w size (.slice (some ⟨b, off, none⟩) len cap) rows) {n : Nat} (hn : n ≤ len) : RowsAt w size (.slice (some ⟨b, off + n * size, none⟩) (len - n) (cap - n)) (rows.drop n) := by
  obtain ⟨a', cap', hv, h1, h2, h3⟩ := h
  simp only [Value.slice.injEq] at hv
  obtain ⟨rfl, rfl, rfl⟩ := hv
  refine ⟨_, _, by rw [List.length_drop], by rw [List.length_drop]; omega, by omega, fun hne => ?_⟩
  have hne' : rows ≠ [] := fun e => hne (by rw [e]; simp)
  obtain ⟨b', off', hb, h5⟩ := h3 hne'
  cases hb
  refine ⟨_, _, rfl, fun i r hr j c hj => ?_⟩
  rw [List.getElem?_drop] at hr
  have := h5 (n + i) r hr j c hj
  rw [Nat.add_mul, ← Nat.add_assoc] at this
  exact this
theorem rows_none {w : World} {size : Nat} {a : Option Addr} {c : Nat} (hc : c ≤ maxLen) : RowsAt w size (.slice a 0 c) [] := ⟨a, c, rfl, Nat.zero_le _, hc, fun h => absurd rfl h⟩
theorem owns_emptyw {w : World} {base G : Nat} (hG : w.heap[G]? = some (.cells #[] 95 (0, 0))) (hb : base ≤ G) : w.ownsRow base 95 3 (.slice (some ⟨G, 0, none⟩) 0 0) 0 [] :=
  ⟨by simp, .inr ⟨G, 0, #[], rfl, hb, hG, Nat.le_refl _, by unfold maxLen; omega, by simp, by simp⟩⟩
section
variable {ops : Array Oper} {o : Oper} {a : Act} {K : Act → World → Prop} {Q : Exit → Act → World → Prop} {E : Prop} {w5 wc : World} {i0 : TypeInfo}
theorem arm_w1 (hi0 : Tryz.prog.info? 95 = some i0) {z : Value} (hz0 : i0.zero = some z) (hz3 : z.cells.size = 3) (hz1 : i0.size = 3) (hz2 : i0.bytes = 40)
    (hgd : o.guard = none) (s x : Operand) (ho : o.op = .call { callee := .builtin .append, args := #[s, x], argTypes := #[40, 40] })
    (G : Nat) (ta : Option Addr) (tc n : Nat) (rows : List (List Value)) (hs : a.eval s = .slice (some ⟨G, 0, none⟩) 0 0) (hx : a.eval x = .slice ta n tc) (hG : wc.heap[G]? = some (.cells #[] 95 (0, 0))) (hGw : w5.heap.size ≤ G) (hK : Kept (fun _ => False) w5 wc)
    (hr : RowsAt w5 3 (.slice ta n tc) rows) (hl : ∀ r ∈ rows, r.length = 3) (h1 : ∀ u ∈ rows.flatten, u.oneCell' = true) (hn2 : n ≤ 1099600000000)
    (h : ∀ a6 c6 w6, w6.ownsRow w5.heap.size 95 3 (.slice a6 n c6) n rows.flatten → Kept (fun _ => False) w5 w6 → (∀ (q : Nat) (ob : Obj), q ≠ G → wc.heap[q]? = some ob → w6.heap[q]? = some ob) → K (a.put o.dst (.slice a6 n c6)) w6) :
    if Region.wanted o (yielded ops a.tmps) = true then Oper.wp Tryz.prog o a wc K Q else E := by
  obtain ⟨a6, c6, w6, hr6, ho6, k6, _⟩ := append_any (P := Tryz.prog) wc 40 o.type w5.heap.size 95 i0 z 3 40 Tryz.underlying40 hi0 hz0 hz1 hz2 hz3 (by omega) _ 0 0 [] (owns_emptyw hG hGw) ta n tc _ (RowsAt.below hr hK.below) hl h1 (by unfold maxLen; omega) (by omega) hK.size
  rw [Nat.zero_add] at hr6 ho6
  refine step_append_own hgd s x _ ho _ _ _ hs hx w6 hr6 (h a6 c6 w6 (by simpa using ho6) (hK.trans' k6 (fun i hi hx => ?_)) (fun q ob hq hob => k6.heap (fun hx => ?_) hob))
  · simp only [Value.ownBlock, Option.some.injEq] at hx; omega
  · simp only [Value.ownBlock, Option.some.injEq] at hx; omega
theorem arm_w2 (hi0 : Tryz.prog.info? 95 = some i0) {z : Value} (hz0 : i0.zero = some z) (hz3 : z.cells.size = 3) (hz1 : i0.size = 3) (hz2 : i0.bytes = 40)
    (hgd : o.guard = none) (s x : Operand) (ho : o.op = .call { callee := .builtin .append, args := #[s, x], argTypes := #[40, 40] })
    (a6 : Option Addr) (c6 n Bk : Nat) (rows : List (List Value)) (row : List Value) (hrl : row.length = 3) (hr1 : ∀ u ∈ row, u.oneCell' = true) (hs : a.eval s = .slice a6 n c6) (hx : a.eval x = .slice (some ⟨Bk, 0, none⟩) 1 1) (ho6 : wc.ownsRow w5.heap.size 95 3 (.slice a6 n c6) n rows.flatten)
    (hB : wc.heap[Bk]? = some (.cells row.toArray 95 (0, 0))) (hK : Kept (fun _ => False) w5 wc) (hn2 : n ≤ 1099600000000)
    (h : ∀ a7 c7 w7, w7.ownsRow w5.heap.size 95 3 (.slice a7 (n + 1) c7) (n + 1) (rows ++ [row]).flatten → Kept (fun _ => False) w5 w7 → K (a.put o.dst (.slice a7 (n + 1) c7)) w7) :
    if Region.wanted o (yielded ops a.tmps) = true then Oper.wp Tryz.prog o a wc K Q else E := by
  obtain ⟨a7, c7, w7, hr7, ho7, k7, _⟩ := append_any (P := Tryz.prog) wc 40 o.type w5.heap.size 95 i0 z 3 40 Tryz.underlying40 hi0 hz0 hz1 hz2 hz3 (by omega) a6 n c6 _ ho6 (some ⟨Bk, 0, none⟩) 1 1 [row] (rows_fresh hB (by simp) (by simpa using hrl) rfl (by simp [maxLen])) (by simpa using hrl) (by simpa using hr1) (by unfold maxLen; omega) (by omega) hK.size
  refine step_append_own hgd s x _ ho _ _ _ hs hx w7 hr7 (h a7 c7 w7 (by simpa using ho7) (hK.trans' k7 (fun i hi hx => ?_)))
  have := (ho6.lt i hx).1; omega
theorem arm_w3 (hi0 : Tryz.prog.info? 95 = some i0) {z : Value} (hz0 : i0.zero = some z) (hz3 : z.cells.size = 3) (hz1 : i0.size = 3) (hz2 : i0.bytes = 40)
    (hgd : o.guard = none) (s x : Operand) (ho : o.op = .call { callee := .builtin .append, args := #[s, x], argTypes := #[40, 40] })
    (a6 : Option Addr) (c6 n : Nat) (ta : Option Addr) (tc m : Nat) (rows rows' : List (List Value)) (hs : a.eval s = .slice a6 n c6) (hx : a.eval x = .slice ta m tc) (ho6 : wc.ownsRow w5.heap.size 95 3 (.slice a6 n c6) n rows.flatten) (hK : Kept (fun _ => False) w5 wc)
    (hr : RowsAt w5 3 (.slice ta m tc) rows') (hl : ∀ r ∈ rows', r.length = 3) (h1 : ∀ u ∈ rows'.flatten, u.oneCell' = true) (hn2 : n ≤ 1099600000000) (hm2 : m ≤ 1099600000000)
    (h : ∀ a7 c7 w7, w7.ownsRow w5.heap.size 95 3 (.slice a7 (n + m) c7) (n + m) (rows ++ rows').flatten → Kept (fun _ => False) w5 w7 → K (a.put o.dst (.slice a7 (n + m) c7)) w7) :
    if Region.wanted o (yielded ops a.tmps) = true then Oper.wp Tryz.prog o a wc K Q else E := by
  obtain ⟨a7, c7, w7, hr7, ho7, k7, _⟩ := append_any (P := Tryz.prog) wc 40 o.type w5.heap.size 95 i0 z 3 40 Tryz.underlying40 hi0 hz0 hz1 hz2 hz3 (by omega) a6 n c6 _ ho6 ta m tc _ (RowsAt.below hr hK.below) hl h1 (by unfold maxLen; omega) (by omega) hK.size
  refine step_append_own hgd s x _ ho _ _ _ hs hx w7 hr7 (h a7 c7 w7 (by simpa using ho7) (hK.trans' k7 (fun i hi hx => ?_)))
  have := (ho6.lt i hx).1; omega
end
end Go.Proofs.YtplbdlgmjehckabGreatDoor

