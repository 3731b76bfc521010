/-
  Plain Lean, no program: what is printed of declarations is read as they are.
-/
import Derived.Test.YtplbdlgmjehckabShSeg
namespace Go.Proofs.Ytplbdlgmjehckab
set_option linter.unusedVariables false
set_option linter.unusedSimpArgs false

def NameOk (nm : B) : Prop := nameLen nm = nm.length ∧ 1 ≤ nm.length ∧ nm.length ≤ 20
def WordOk (w : B) : Prop := w ≠ [] ∧ ∀ c ∈ w, isWord c = true
def ValOk (v : B) : Prop := ∃ ws : List B, ws ≠ [] ∧ (∀ w ∈ ws, WordOk w) ∧ v = joinW ws ∧ v.length ≤ 60
def DeclOk (d : PDecl) : Prop := NameOk d.name ∧ ValOk d.val

/-! ### what is read is so -/
theorem takeWhile_self {p : UInt8 → Bool} {w : B} (hw : ∀ c ∈ w, p c = true) : w.takeWhile p = w := by
  induction w with
  | nil => rfl
  | cons c w ih => rw [List.takeWhile_cons, if_pos (hw c (by simp)), ih (fun x hx => hw x (by simp [hx]))]
theorem nameLen_own {l : B} : nameLen (l.take (nameLen l)) = nameLen l := by
  cases l with
  | nil => rfl
  | cons c t =>
    rw [nameLen_eq]
    split
    · rename_i hc
      have hm : isMore c = true := by simp [isMore, hc]
      rw [takeWhile_take, List.takeWhile_cons, if_pos hm, nameLen_eq, if_pos hc]
      have : (c :: t.takeWhile isMore).takeWhile isMore = c :: t.takeWhile isMore := by
        rw [List.takeWhile_cons, if_pos hm]
        congr 1
        exact takeWhile_self (fun x hx => List.all_eq_true.1 (List.all_takeWhile (p := isMore) (l := t)) x hx)
      rw [this]
    · simp [nameLen]
theorem name_ok_of {l nm l' : B} {a a' : Nat} (h : sName l a = .ok (nm, l', a')) : NameOk nm := by
  obtain ⟨h1, h2, h3, h4, h5⟩ := name_pos h
  refine ⟨?_, h1, h4⟩
  have : nm = l.take (nameLen l) := by rw [h5]; rw [h2]; simp
  rw [this, nameLen_own, ← this, h5]
theorem val_ok_of : ∀ (f : Nat) (ws : List B) (l : B) (a : Nat) (v l' : B) (a' : Nat), (∀ w ∈ ws, WordOk w) → (joinW ws).length ≤ 60 → sValL f ws l a = .ok (v, l', a') → ValOk v := by
  intro f
  induction f with
  | zero => intro ws l a v l' a' _ _ h; cases h
  | succ f ih =>
    intro ws l a v l' a' hw hl h
    rw [sValL] at h
    simp only at h
    split at h
    · split at h
      · cases h
      · rename_i hne
        cases h
        exact ⟨ws, hne, hw, rfl, hl⟩
    · rename_i hne
      split at h
      · cases h
      · rename_i hle
        obtain ⟨⟨l1, a1⟩, h1, h⟩ := then_ok h
        refine ih _ _ _ _ _ _ ?_ (by omega) h
        intro w hx
        simp only [List.mem_append, List.mem_singleton] at hx
        rcases hx with hx | rfl
        · exact hw w hx
        · exact ⟨hne, fun c hc => List.all_eq_true.1 (List.all_takeWhile (p := isWord) (l := l)) c hc⟩
theorem decl_ok_of {l l' : B} {a a' : Nat} {d : PDecl} (h : sDecl l a = .ok (d, l', a')) : DeclOk d := by
  unfold sDecl at h
  obtain ⟨⟨nm, l1, a1⟩, h1, h⟩ := then_ok h
  obtain ⟨⟨l2, a2⟩, h2, h⟩ := then_ok h
  obtain ⟨⟨l3, a3⟩, h3, h⟩ := then_ok h
  obtain ⟨⟨l4, a4⟩, h4, h⟩ := then_ok h
  obtain ⟨⟨v5, l5, a5⟩, h5, h⟩ := then_ok h
  obtain ⟨⟨v6, l6, a6⟩, h6, h⟩ := then_ok h
  cases h
  exact ⟨name_ok_of h1, val_ok_of _ [] _ _ _ _ _ (by simp) (by simp [joinW]) h5⟩
theorem declsL_ok_of : ∀ (f : Nat) (ds : List PDecl) (l : B) (a : Nat) (v : List PDecl) (l' : B) (a' : Nat), (∀ d ∈ ds, DeclOk d) → ds.length ≤ 20 → sDeclsL f ds l a = .ok (v, l', a') →
    (∀ d ∈ v, DeclOk d) ∧ v.length ≤ 20 := by
  intro f
  induction f with
  | zero => intro ds l a v l' a' _ _ h; cases h
  | succ f ih =>
    intro ds l a v l' a' hd hn h
    rw [sDeclsL] at h
    split at h
    · cases h; exact ⟨hd, hn⟩
    · split at h
      · cases h
      · rename_i hne
        obtain ⟨⟨d, l1, a1⟩, h1, h⟩ := then_ok h
        have hdd : ∀ x ∈ ds ++ [d], DeclOk x := by
          intro x hx
          simp only [List.mem_append, List.mem_singleton] at hx
          rcases hx with hx | rfl
          · exact hd x hx
          · exact decl_ok_of h1
        simp only at h
        split at h
        · obtain ⟨⟨l2, a2⟩, h2, h⟩ := then_ok h
          exact ih _ _ _ _ _ _ hdd (by simp; omega) h
        · cases h; exact ⟨hdd, by simp; omega⟩
theorem decls_ok_of {l l' : B} {a a' : Nat} {ds : List PDecl} (h : sDecls l a = .ok (ds, l', a')) : (∀ d ∈ ds, DeclOk d) ∧ ds.length ≤ 20 := by
  unfold sDecls at h
  obtain ⟨⟨l1, a1⟩, h1, h⟩ := then_ok h
  exact declsL_ok_of _ [] _ _ _ _ _ (by simp) (by simp) h
theorem declsOf_ok_of {s : B} {ds : List PDecl} (h : sDeclsOf s = .ok ds) : (∀ d ∈ ds, DeclOk d) ∧ ds.length ≤ 20 := by
  unfold sDeclsOf at h
  split at h
  · cases h
  · obtain ⟨⟨ds2, l1, a1⟩, h1, h⟩ := then_ok h
    simp only at h
    split at h
    · cases h; exact decls_ok_of h1
    · cases h

/-! ### what is so is read -/
theorem takeWhile_ext {p : UInt8 → Bool} {w : B} (hw : ∀ c ∈ w, p c = true) {m : B} (hm : m.head?.any p = false) : (w ++ m).takeWhile p = w := by
  induction w with
  | nil =>
    cases m with
    | nil => rfl
    | cons c m => simp at hm; simp [List.takeWhile_cons, hm]
  | cons c w ih =>
    simp only [List.cons_append, List.takeWhile_cons]
    rw [if_pos (hw c (by simp)), ih (fun x hx => hw x (by simp [hx]))]
theorem name_all {nm : B} (h : NameOk nm) : (∃ c t, nm = c :: t ∧ isLow c = true) ∧ ∀ c ∈ nm, isMore c = true := by
  obtain ⟨h1, h2, h3⟩ := h
  obtain ⟨c, t, rfl, hc⟩ := nameLen_pos (l := nm) (by omega)
  refine ⟨⟨c, t, rfl, hc⟩, ?_⟩
  rw [nameLen_eq, if_pos hc] at h1
  have hp : (c :: t).takeWhile isMore = c :: t := (List.takeWhile_prefix isMore).eq_of_length h1
  intro x hx
  rw [← hp] at hx
  exact List.all_eq_true.1 (List.all_takeWhile (p := isMore) (l := c :: t)) x hx
theorem name_read {nm m : B} (h : NameOk nm) (hm : m.head?.any isMore = false) (b : Nat) : sName (nm ++ m) b = .ok (nm, m, b + nm.length) := by
  obtain ⟨⟨c, t, rfl, hc⟩, hall⟩ := name_all h
  have : nameLen (c :: t ++ m) = (c :: t).length := by
    rw [List.cons_append, nameLen_eq, if_pos hc, ← List.cons_append, takeWhile_ext hall hm]
  unfold sName
  rw [this, if_neg (by have := h.2; omega)]
  simp

theorem word_stops {c : UInt8} (t : B) (h : isWord c = true) : stops (c :: t) = true := by
  apply stops_cons
  simp [isWord, isLow] at h
  omega
theorem joinW_cons (w : B) (ws : List B) (h : ws ≠ []) : joinW (w :: ws) = w ++ ([32] ++ joinW ws) := by
  cases ws with
  | nil => exact absurd rfl h
  | cons x ws => simp [joinW]
theorem joinW_head {ws : List B} (h : ws ≠ []) (hw : ∀ w ∈ ws, WordOk w) : ∃ c t, joinW ws = c :: t ∧ isWord c = true := by
  cases ws with
  | nil => exact absurd rfl h
  | cons w ws =>
    obtain ⟨hne, hall⟩ := hw w (by simp)
    cases w with
    | nil => exact absurd rfl hne
    | cons c t =>
      refine ⟨c, ?_, ?_, hall c (by simp)⟩
      · exact t ++ (match ws with | [] => [] | _ => [32] ++ joinW ws)
      · cases ws with
        | nil => simp [joinW]
        | cons x ws => simp [joinW]
theorem joinW_snoc_le (xs : List B) (ys : List B) : (joinW xs).length ≤ (joinW (xs ++ ys)).length := by
  induction xs with
  | nil => simp [joinW]
  | cons x xs ih =>
    by_cases hx : xs = []
    · subst hx
      cases ys with
      | nil => simp
      | cons y ys => simp [joinW]
    · rw [List.cons_append, joinW_cons _ _ hx, joinW_cons _ _ (by simp [hx])]
      simp; exact ih
/-- gaps and what stands behind them, behind words: 'r' is where the value ends -/
theorem val_read : ∀ (ws done : List B) (g r : B) (f b : Nat), ws ≠ [] → (∀ w ∈ ws, WordOk w) → (joinW (done ++ ws)).length ≤ 60 → IsGap g → stops r = true → r.head?.any isWord = false → (g ++ r).head?.any isWord = false → ws.length < f →
    sValL f done (joinW ws ++ (g ++ r)) b = .ok (joinW (done ++ ws), r, b + (joinW ws).length + g.length)
  | [], _, _, _, _, _, h, _, _, _, _, _, _, _ => absurd rfl h
  | w :: ws, done, g, r, f, b, _, hw, hl, hg, hr, hrw, hgw, hf => by
    obtain ⟨hne, hall⟩ := hw w (by simp)
    cases f with
    | zero => omega
    | succ f =>
      have hl1 : ¬ 60 < (joinW (done ++ [w])).length := by
        have := joinW_snoc_le (done ++ [w]) ws
        rw [List.append_assoc, List.singleton_append] at this
        omega
      by_cases hws : ws = []
      · subst hws
        have e : joinW [w] = w := rfl
        rw [e, sValL]
        simp only
        rw [takeWhile_ext hall hgw, if_neg hne, if_neg hl1, List.drop_left, then_of (by rw [gap_of hg, gap_stop _ hr])]
        simp only
        cases f with
        | zero => simp at hf
        | succ f =>
          rw [sValL]
          simp only
          have : r.takeWhile isWord = [] := takeWhile_ext (w := []) (by simp) hrw
          rw [this, if_pos rfl, if_neg (by simp)]
      · obtain ⟨c, t, hc, hcw⟩ := joinW_head hws (fun x hx => hw x (by simp [hx]))
        have hst : stops (joinW ws ++ (g ++ r)) = true := by rw [hc]; exact word_stops _ hcw
        rw [joinW_cons w ws hws, sValL]
        simp only
        have e : w ++ ([32] ++ joinW ws) ++ (g ++ r) = w ++ ([32] ++ (joinW ws ++ (g ++ r))) := by simp
        have h32 : IsGap [32] := .one (.inl rfl) .nil
        rw [e, takeWhile_ext hall (by rfl), if_neg hne, if_neg hl1, List.drop_left, then_of (by rw [gap_of h32, gap_stop _ hst])]
        simp only
        rw [val_read ws (done ++ [w]) g r f _ hws (fun x hx => hw x (by simp [hx])) (by simpa using hl) hg hr hrw hgw (by simp at hf; omega)]
        simp; omega

/-- what stands behind a declaration: nothing, or what begins with ';' -/
def declEnds (m : B) : Prop := m = [] ∨ ∃ t, m = 59 :: t
theorem declEnds.stops {m : B} (h : declEnds m) : stops m = true := by
  rcases h with rfl | ⟨t, rfl⟩
  · rfl
  · exact stops_cons _ (by decide)
theorem words_le (ws : List B) : ws.length ≤ (joinW ws).length + 1 := by
  induction ws with
  | nil => simp
  | cons w ws ih =>
    by_cases h : ws = []
    · subst h; simp
    · rw [joinW_cons w ws h]; simp; omega
theorem decl_read {d : PDecl} (h : DeclOk d) {m : B} (hm : declEnds m) (b : Nat) : sDecl (printOne d ++ m) b = .ok (d, m, b + (printOne d).length) := by
  obtain ⟨nm, v, st⟩ := d
  obtain ⟨h1, ws, hne, hw, rfl, hl⟩ := h
  simp only at h1 hl
  obtain ⟨c, t, hc, hcw⟩ := joinW_head hne hw
  have h32 : IsGap [32] := .one (.inl rfl) .nil
  have main : ∀ (g r : B), IsGap g → Go.Proofs.Ytplbdlgmjehckab.stops r = true → r.head?.any isWord = false → (g ++ r).head?.any isWord = false → ∀ (st : Bool) (n : Nat), (∀ b, sStrong r b = .ok (st, m, b + n)) →
      sDecl (nm ++ ([58] ++ ([32] ++ (joinW ws ++ (g ++ r))))) b = .ok (⟨nm, joinW ws, st⟩, m, b + (nm.length + (1 + (1 + ((joinW ws).length + (g.length + n)))))) := by
    intro g r hg hr hrw hgw st n hs
    have hst : Go.Proofs.Ytplbdlgmjehckab.stops (joinW ws ++ (g ++ r)) = true := by rw [hc]; exact word_stops _ hcw
    unfold sDecl
    rw [then_of (name_read h1 (by rfl) b)]
    simp only
    rw [then_of (gap_stop _ (by exact stops_cons (c := 58) _ (by decide)))]
    simp only
    rw [then_of (show pMust [58] ([58] ++ ([32] ++ (joinW ws ++ (g ++ r)))) (b + nm.length) = .ok ([32] ++ (joinW ws ++ (g ++ r)), b + nm.length + 1) from by unfold pMust; rw [if_pos (prefix_pos _ _)]; rfl)]
    simp only
    rw [then_of (show sGap ([32] ++ (joinW ws ++ (g ++ r))) (b + nm.length + 1) = .ok (joinW ws ++ (g ++ r), b + nm.length + 1 + 1) from by rw [gap_of h32, gap_stop _ hst]; rfl)]
    simp only
    have hv : sVal (joinW ws ++ (g ++ r)) (b + nm.length + 1 + 1) = .ok (joinW ws, r, b + nm.length + 1 + 1 + (joinW ws).length + g.length) := by
      unfold sVal
      have := words_le ws
      have hpos : 0 < (joinW ws).length := by rw [hc]; simp
      by_cases hx : (g ++ r) = []
      · have hg0 : g = [] := by simp at hx; exact hx.1
        have hr0 : r = [] := by simp at hx; exact hx.2
        subst hg0 hr0
        have hlt : ws.length < (joinW ws ++ ([] ++ [] : B)).length + 1 ∨ ws.length = (joinW ws).length + 1 := by simp; omega
        rcases hlt with hlt | hlt
        · exact val_read ws [] [] [] _ _ hne hw (by simpa using hl) hg hr hrw hgw hlt
        · exfalso
          have : ∀ ws : List B, ws ≠ [] → (∀ w ∈ ws, WordOk w) → ws.length ≤ (joinW ws).length := by
            intro ws
            induction ws with
            | nil => intro h; exact absurd rfl h
            | cons w ws ih =>
              intro _ hw
              have hwl : 0 < w.length := List.length_pos_iff.2 (hw w (by simp)).1
              by_cases h : ws = []
              · subst h; simp [joinW]; omega
              · rw [joinW_cons w ws h]
                have := ih h (fun x hx => hw x (by simp [hx]))
                simp; omega
          have := this ws hne hw
          omega
      · have : 0 < (g ++ r).length := List.length_pos_iff.2 hx
        exact val_read ws [] g r _ _ hne hw (by simpa using hl) hg hr hrw hgw (by rw [List.length_append]; omega)
    rw [then_of hv]
    simp only
    rw [then_of (hs _)]
    simp only
    congr 3; omega
  cases st with
  | false =>
    have := main [] m .nil hm.stops (by rcases hm with rfl | ⟨t, rfl⟩ <;> rfl) (by rcases hm with rfl | ⟨t, rfl⟩ <;> rfl) false 0 (fun b => by
      unfold sStrong
      rcases hm with rfl | ⟨t, rfl⟩
      · rfl
      · rw [if_neg (by simp [List.isPrefixOf])]; rfl)
    have e2 : nm.length + (1 + (1 + (joinW ws).length)) = nm.length + ((joinW ws).length + 1 + 1) := by omega
    simp only [List.nil_append, List.length_nil, Nat.add_zero, Nat.zero_add] at this
    rw [e2] at this
    simpa [printOne] using this
  | true =>
    have hs2 : Go.Proofs.Ytplbdlgmjehckab.stops ([33] ++ (importantWord ++ m)) = true := stops_cons (c := 33) _ (by decide)
    have := main [32] ([33] ++ (importantWord ++ m)) h32 hs2 (by rfl) (by rfl) true 10 (fun b => by
      unfold sStrong
      rw [if_pos (prefix_pos _ _)]
      have hd : ([33] ++ (importantWord ++ m)).drop 1 = importantWord ++ m := rfl
      rw [hd, then_of (show pMust importantWord (importantWord ++ m) (b + 1) = .ok (m, b + 1 + 9) from by unfold pMust; rw [if_pos (prefix_pos _ _)]; simp [importantWord])]
      simp only
      rw [gap_stop _ hm.stops]
      rfl)
    have h9 : importantWord.length = 9 := rfl
    have e2 : nm.length + (1 + (1 + ((joinW ws).length + (([32] : B).length + 10)))) = nm.length + ((joinW ws).length + 11 + 1 + 1) := by simp; omega
    rw [e2] at this
    simpa [printOne, h9] using this
theorem print_cons (d : PDecl) (ds : List PDecl) (h : ds ≠ []) : sPrint (d :: ds) = printOne d ++ ([59] ++ ([32] ++ sPrint ds)) := by
  cases ds with
  | nil => exact absurd rfl h
  | cons x ds => simp [sPrint]
theorem printOne_head {d : PDecl} (h : DeclOk d) : ∃ c t, printOne d = c :: t ∧ isLow c = true := by
  obtain ⟨⟨c, t, hc, hl⟩, _⟩ := name_all h.1
  exact ⟨c, _, by unfold printOne; rw [hc]; rfl, hl⟩
theorem low_ready {c : UInt8} (t : B) (h : isLow c = true) : stops (c :: t) = true ∧ ((c :: t).isEmpty || ([125] : B).isPrefixOf (c :: t)) = false := by
  simp [isLow] at h
  have h125 : ¬ (125 : UInt8) = c := fun e => by
    have : c.toNat = 125 := by rw [← e]; rfl
    omega
  exact ⟨stops_cons _ (by omega), by simp [List.isPrefixOf, h125]⟩
theorem print_head {ds : List PDecl} (h : ds ≠ []) (hd : ∀ d ∈ ds, DeclOk d) : ∃ c t, sPrint ds = c :: t ∧ isLow c = true := by
  cases ds with
  | nil => exact absurd rfl h
  | cons d ds =>
    obtain ⟨c, t, hc, hl⟩ := printOne_head (hd d (by simp))
    by_cases hx : ds = []
    · subst hx; exact ⟨c, t, hc, hl⟩
    · exact ⟨c, t ++ ([59] ++ ([32] ++ sPrint ds)), by rw [print_cons d ds hx, hc]; rfl, hl⟩
theorem declsL_read : ∀ (ds done : List PDecl) (f b : Nat), ds ≠ [] → (∀ d ∈ ds, DeclOk d) → done.length + ds.length ≤ 20 → ds.length < f → ∃ b', sDeclsL f done (sPrint ds) b = .ok (done ++ ds, [], b')
  | [], _, _, _, h, _, _, _ => absurd rfl h
  | d :: ds, done, f, b, _, hd, hn, hf => by
    cases f with
    | zero => omega
    | succ f =>
      obtain ⟨c, t, hc, hl⟩ := printOne_head (hd d (by simp))
      by_cases hx : ds = []
      · subst hx
        have e : sPrint [d] = printOne d := rfl
        have hrd := decl_read (hd d (by simp)) (.inl rfl) b
        rw [List.append_nil] at hrd
        refine ⟨b + (printOne d).length, ?_⟩
        · rw [e, sDeclsL, hc, (low_ready t hl).2, if_neg (by simp), if_neg (by simp at hn; omega), ← hc, then_of hrd]
          simp [List.isPrefixOf]
      · obtain ⟨c2, t2, hc2, hl2⟩ := print_head hx (fun y hy => hd y (by simp [hy]))
        have hrd := decl_read (hd d (by simp)) (m := [59] ++ ([32] ++ sPrint ds)) (.inr ⟨_, rfl⟩) b
        obtain ⟨b', hb'⟩ := declsL_read ds (done ++ [d]) f (b + (printOne d).length + 1 + 1) hx (fun y hy => hd y (by simp [hy])) (by simp at hn ⊢; omega) (by simp at hf; omega)
        refine ⟨b', ?_⟩
        have h32 : IsGap [32] := .one (.inl rfl) .nil
        rw [print_cons d ds hx, sDeclsL]
        have e : printOne d ++ ([59] ++ ([32] ++ sPrint ds)) = c :: (t ++ ([59] ++ ([32] ++ sPrint ds))) := by rw [hc]; rfl
        rw [e, (low_ready _ hl).2, if_neg (by simp), if_neg (by simp at hn; omega), ← e, then_of hrd]
        simp only
        rw [if_pos (prefix_pos _ _)]
        have hdd : ([59] ++ ([32] ++ sPrint ds)).drop 1 = [32] ++ sPrint ds := rfl
        rw [hdd, then_of (show sGap ([32] ++ sPrint ds) (b + (printOne d).length + 1) = .ok (sPrint ds, b + (printOne d).length + 1 + 1) from by rw [gap_of h32, hc2, gap_stop _ (low_ready _ hl2).1]; rfl)]
        simp only
        rw [hb']; simp
theorem printOne_le {d : PDecl} (h : DeclOk d) : (printOne d).length ≤ 93 := by
  obtain ⟨⟨_, _, h1⟩, ws, _, _, _, h2⟩ := h
  unfold printOne
  have : ((if d.strong then [32, 33] ++ importantWord else []) : B).length ≤ 11 := by split <;> simp [importantWord]
  simp only [List.length_append, List.length_cons, List.length_nil]; omega
theorem print_le : ∀ {ds : List PDecl}, (∀ d ∈ ds, DeclOk d) → (sPrint ds).length ≤ 95 * ds.length
  | [], _ => by simp [sPrint]
  | d :: ds, h => by
    have h1 := printOne_le (h d (by simp))
    have h2 := print_le (fun y hy => h y (by simp [hy]) : ∀ y ∈ ds, DeclOk y)
    by_cases hx : ds = []
    · subst hx; simp [sPrint]; omega
    · rw [print_cons d ds hx]; simp; omega
theorem len_le_print : ∀ {ds : List PDecl}, (∀ d ∈ ds, DeclOk d) → ds.length ≤ (sPrint ds).length
  | [], _ => by simp
  | d :: ds, h => by
    have h2 := len_le_print (fun y hy => h y (by simp [hy]) : ∀ y ∈ ds, DeclOk y)
    obtain ⟨c, t, hc, _⟩ := printOne_head (h d (by simp))
    by_cases hx : ds = []
    · subst hx; simp [sPrint, hc]
    · rw [print_cons d ds hx]; simp; omega
/-- what is printed is read -/
theorem print_read {ds : List PDecl} (hd : ∀ d ∈ ds, DeclOk d) (hn : ds.length ≤ 20) : sDeclsOf (sPrint ds) = .ok ds := by
  have hle := print_le hd
  unfold sDeclsOf
  rw [if_neg (by omega)]
  unfold sDecls
  by_cases hx : ds = []
  · subst hx; rfl
  · obtain ⟨c, t, hc, hl⟩ := print_head hx hd
    have hst : Go.Proofs.Ytplbdlgmjehckab.stops (sPrint ds) = true := by rw [hc]; exact (low_ready t hl).1
    rw [gap_stop 0 hst, Ans.ok_then]
    simp only
    have := len_le_print hd
    obtain ⟨b', hb'⟩ := declsL_read ds [] ((sPrint ds).length + 1) 0 hx hd (by simpa using hn) (by omega)
    rw [then_of hb']
    simp

/-! ### it may stand as an attribute's value -/
theorem word_val {c : UInt8} (h : isWord c = true) : isVal c = true := by
  simp [isWord, isLow] at h
  simp [isVal]; omega
theorem joinW_val : ∀ {ws : List B}, (∀ w ∈ ws, WordOk w) → ∀ c ∈ joinW ws, isVal c = true
  | [], _, c, hc => by simp [joinW] at hc
  | w :: ws, h, c, hc => by
    by_cases hx : ws = []
    · subst hx; exact word_val ((h w (by simp)).2 c hc)
    · rw [joinW_cons w ws hx] at hc
      simp only [List.mem_append, List.mem_singleton] at hc
      rcases hc with hc | rfl | hc
      · exact word_val ((h w (by simp)).2 c hc)
      · decide
      · exact joinW_val (fun y hy => h y (by simp [hy])) c hc
theorem more_val {c : UInt8} (h : isMore c = true) : isVal c = true := by
  simp [isMore, isLow] at h
  simp [isVal]; omega
theorem printOne_val {d : PDecl} (h : DeclOk d) : ∀ c ∈ printOne d, isVal c = true := by
  obtain ⟨h1, ws, hne, hw, hv, hl⟩ := h
  intro c hc
  unfold printOne at hc
  rw [hv] at hc
  simp only [List.mem_append] at hc
  rcases hc with ((hc | hc) | hc) | hc
  · exact more_val ((name_all h1).2 c hc)
  · have : ∀ x ∈ ([58, 32] : B), isVal x = true := by decide
    exact this c hc
  · exact joinW_val hw c hc
  · split at hc
    · have : ∀ x ∈ ([32, 33] ++ importantWord : B), isVal x = true := by decide
      exact this c hc
    · cases hc
theorem print_val : ∀ {ds : List PDecl}, (∀ d ∈ ds, DeclOk d) → ∀ c ∈ sPrint ds, isVal c = true
  | [], _, c, hc => by simp [sPrint] at hc
  | d :: ds, h, c, hc => by
    by_cases hx : ds = []
    · subst hx; exact printOne_val (h d (by simp)) c hc
    · rw [print_cons d ds hx] at hc
      simp only [List.mem_append, List.mem_singleton] at hc
      rcases hc with hc | rfl | rfl | hc
      · exact printOne_val (h d (by simp)) c hc
      · decide
      · decide
      · exact print_val (fun y hy => h y (by simp [hy])) c hc

end Go.Proofs.Ytplbdlgmjehckab
