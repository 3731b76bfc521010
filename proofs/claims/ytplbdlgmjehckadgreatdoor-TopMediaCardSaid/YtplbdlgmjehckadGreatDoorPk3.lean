/-
  Lemmas for the claims of this seat: the program's functions walked, and plain laws. In this order: ShTurns ShFine PgPlain.
-/
import Derived.Test.YtplbdlgmjehckadGreatDoorPk2
import Derived.Test.YtplbdlgmjehckadGreatDoorPk1
namespace Go.Proofs.YtplbdlgmjehckadGreatDoor
set_option linter.unusedVariables false
set_option linter.unusedSimpArgs false
def NameOk (nm : B) : Prop := nameLen nm = nm.length ∧ 1 ≤ nm.length ∧ nm.length ≤ 20
def WordOk (w : B) : Prop := w ≠ [] ∧ ∀ c ∈ w, isWord c = true
def ValOk (v : B) : Prop := ∃ ws : List B, ws ≠ [] ∧ (∀ w ∈ ws, WordOk w) ∧ v = joinW ws ∧ v.length ≤ 60
def DeclOk (d : PDecl) : Prop := NameOk d.name ∧ ValOk d.val
theorem takeWhile_self {p : UInt8 → Bool} {w : B} (hw : ∀ c ∈ w, p c = true) : w.takeWhile p = w := by
  induction w with
  | nil => rfl
  | cons c w ih => rw [List.takeWhile_cons, if_pos (hw c (by simp)), ih (fun x hx => hw x (by simp [hx]))]
theorem nameLen_own {l : B} : nameLen (l.take (nameLen l)) = nameLen l := by
  cases l with
  | nil => rfl
  | cons c t =>
    rw [nameLen_eq]
    split
    · rename_i hc
      have hm : isMore c = true := by simp [isMore, hc]
      rw [takeWhile_take, List.takeWhile_cons, if_pos hm, nameLen_eq, if_pos hc]
      have : (c :: t.takeWhile isMore).takeWhile isMore = c :: t.takeWhile isMore := by
        rw [List.takeWhile_cons, if_pos hm]
        congr 1
        exact takeWhile_self (fun x hx => List.all_eq_true.1 (List.all_takeWhile (p := isMore) (l := t)) x hx)
      rw [this]
    · simp [nameLen]
theorem name_ok_of {l nm l' : B} {a a' : Nat} (h : sName l a = .ok (nm, l', a')) : NameOk nm := by
  obtain ⟨h1, h2, h3, h4, h5⟩ := name_pos h
  refine ⟨?_, h1, h4⟩
  have : nm = l.take (nameLen l) := by rw [h5]; rw [h2]; simp
  rw [this, nameLen_own, ← this, h5]
theorem val_ok_of : ∀ (f : Nat) (ws : List B) (l : B) (a : Nat) (v l' : B) (a' : Nat), (∀ w ∈ ws, WordOk w) → (joinW ws).length ≤ 60 → sValL f ws l a = .ok (v, l', a') → ValOk v := by
  intro f
  induction f with
  | zero => intro ws l a v l' a' _ _ h; cases h
  | succ f ih =>
    intro ws l a v l' a' hw hl h
    rw [sValL] at h
    simp only at h
    split at h
    · split at h
      · cases h
      · rename_i hne
        cases h
        exact ⟨ws, hne, hw, rfl, hl⟩
    · rename_i hne
      split at h
      · cases h
      · rename_i hle
        obtain ⟨⟨l1, a1⟩, h1, h⟩ := then_ok h
        refine ih _ _ _ _ _ _ ?_ (by omega) h
        intro w hx
        simp only [List.mem_append, List.mem_singleton] at hx
        rcases hx with hx | rfl
        · exact hw w hx
        · exact ⟨hne, fun c hc => List.all_eq_true.1 (List.all_takeWhile (p := isWord) (l := l)) c hc⟩
theorem decl_ok_of {l l' : B} {a a' : Nat} {d : PDecl} (h : sDecl l a = .ok (d, l', a')) : DeclOk d := by
  unfold sDecl at h
  obtain ⟨⟨nm, l1, a1⟩, h1, h⟩ := then_ok h
  obtain ⟨⟨l2, a2⟩, h2, h⟩ := then_ok h
  obtain ⟨⟨l3, a3⟩, h3, h⟩ := then_ok h
  obtain ⟨⟨l4, a4⟩, h4, h⟩ := then_ok h
  obtain ⟨⟨v5, l5, a5⟩, h5, h⟩ := then_ok h
  obtain ⟨⟨v6, l6, a6⟩, h6, h⟩ := then_ok h
  cases h
  exact ⟨name_ok_of h1, val_ok_of _ [] _ _ _ _ _ (by simp) (by simp [joinW]) h5⟩
theorem declsL_ok_of : ∀ (f : Nat) (ds : List PDecl) (l : B) (a : Nat) (v : List PDecl) (l' : B) (a' : Nat), (∀ d ∈ ds, DeclOk d) → ds.length ≤ 20 → sDeclsL f ds l a = .ok (v, l', a') →
    (∀ d ∈ v, DeclOk d) ∧ v.length ≤ 20 := by
  intro f
  induction f with
  | zero => intro ds l a v l' a' _ _ h; cases h
  | succ f ih =>
    intro ds l a v l' a' hd hn h
    rw [sDeclsL] at h
    split at h
    · cases h; exact ⟨hd, hn⟩
    · split at h
      · cases h
      · rename_i hne
        obtain ⟨⟨d, l1, a1⟩, h1, h⟩ := then_ok h
        have hdd : ∀ x ∈ ds ++ [d], DeclOk x := by
          intro x hx
          simp only [List.mem_append, List.mem_singleton] at hx
          rcases hx with hx | rfl
          · exact hd x hx
          · exact decl_ok_of h1
        simp only at h
        split at h
        · obtain ⟨⟨l2, a2⟩, h2, h⟩ := then_ok h
          exact ih _ _ _ _ _ _ hdd (by simp; omega) h
        · cases h; exact ⟨hdd, by simp; omega⟩
theorem decls_ok_of {l l' : B} {a a' : Nat} {ds : List PDecl} (h : sDecls l a = .ok (ds, l', a')) : (∀ d ∈ ds, DeclOk d) ∧ ds.length ≤ 20 := by
  unfold sDecls at h
  obtain ⟨⟨l1, a1⟩, h1, h⟩ := then_ok h
  exact declsL_ok_of _ [] _ _ _ _ _ (by simp) (by simp) h
theorem declsOf_ok_of {s : B} {ds : List PDecl} (h : sDeclsOf s = .ok ds) : (∀ d ∈ ds, DeclOk d) ∧ ds.length ≤ 20 := by
  unfold sDeclsOf at h
  split at h
  · cases h
  · obtain ⟨⟨ds2, l1, a1⟩, h1, h⟩ := then_ok h
    simp only at h
    split at h
    · cases h; exact decls_ok_of h1
    · cases h
theorem takeWhile_ext {p : UInt8 → Bool} {w : B} (hw : ∀ c ∈ w, p c = true) {m : B} (hm : m.head?.any p = false) : (w ++ m).takeWhile p = w := by
  induction w with
  | nil =>
    cases m with
    | nil => rfl
    | cons c m => simp at hm; simp [List.takeWhile_cons, hm]
  | cons c w ih =>
    simp only [List.cons_append, List.takeWhile_cons]
    rw [if_pos (hw c (by simp)), ih (fun x hx => hw x (by simp [hx]))]
theorem name_all {nm : B} (h : NameOk nm) : (∃ c t, nm = c :: t ∧ isLow c = true) ∧ ∀ c ∈ nm, isMore c = true := by
  obtain ⟨h1, h2, h3⟩ := h
  obtain ⟨c, t, rfl, hc⟩ := nameLen_pos (l := nm) (by omega)
  refine ⟨⟨c, t, rfl, hc⟩, ?_⟩
  rw [nameLen_eq, if_pos hc] at h1
  have hp : (c :: t).takeWhile isMore = c :: t := (List.takeWhile_prefix isMore).eq_of_length h1
  intro x hx
  rw [← hp] at hx
  exact List.all_eq_true.1 (List.all_takeWhile (p := isMore) (l := c :: t)) x hx
theorem name_read {nm m : B} (h : NameOk nm) (hm : m.head?.any isMore = false) (b : Nat) : sName (nm ++ m) b = .ok (nm, m, b + nm.length) := by
  obtain ⟨⟨c, t, rfl, hc⟩, hall⟩ := name_all h
  have : nameLen (c :: t ++ m) = (c :: t).length := by
    rw [List.cons_append, nameLen_eq, if_pos hc, ← List.cons_append, takeWhile_ext hall hm]
  unfold sName
  rw [this, if_neg (by have := h.2; omega)]
  simp
theorem word_stops {c : UInt8} (t : B) (h : isWord c = true) : stops (c :: t) = true := by
  apply stops_cons
  simp [isWord, isLow] at h
  omega
theorem joinW_cons (w : B) (ws : List B) (h : ws ≠ []) : joinW (w :: ws) = w ++ ([32] ++ joinW ws) := by
  cases ws with
  | nil => exact absurd rfl h
  | cons x ws => simp [joinW]
theorem joinW_head {ws : List B} (h : ws ≠ []) (hw : ∀ w ∈ ws, WordOk w) : ∃ c t, joinW ws = c :: t ∧ isWord c = true := by
  cases ws with
  | nil => exact absurd rfl h
  | cons w ws =>
    obtain ⟨hne, hall⟩ := hw w (by simp)
    cases w with
    | nil => exact absurd rfl hne
    | cons c t =>
      refine ⟨c, ?_, ?_, hall c (by simp)⟩
      · exact t ++ (match ws with | [] => [] | _ => [32] ++ joinW ws)
      · cases ws with
        | nil => simp [joinW]
        | cons x ws => simp [joinW]
theorem joinW_snoc_le (xs : List B) (ys : List B) : (joinW xs).length ≤ (joinW (xs ++ ys)).length := by
  induction xs with
  | nil => simp [joinW]
  | cons x xs ih =>
    by_cases hx : xs = []
    · subst hx
      cases ys with
      | nil => simp
      | cons y ys => simp [joinW]
    · rw [List.cons_append, joinW_cons _ _ hx, joinW_cons _ _ (by simp [hx])]
      simp; exact ih
theorem val_read : ∀ (ws done : List B) (g r : B) (f b : Nat), ws ≠ [] → (∀ w ∈ ws, WordOk w) → (joinW (done ++ ws)).length ≤ 60 → IsGap g → stops r = true → r.head?.any isWord = false → (g ++ r).head?.any isWord = false → ws.length < f →
    sValL f done (joinW ws ++ (g ++ r)) b = .ok (joinW (done ++ ws), r, b + (joinW ws).length + g.length)
  | [], _, _, _, _, _, h, _, _, _, _, _, _, _ => absurd rfl h
  | w :: ws, done, g, r, f, b, _, hw, hl, hg, hr, hrw, hgw, hf => by
    obtain ⟨hne, hall⟩ := hw w (by simp)
    cases f with
    | zero => omega
    | succ f =>
      have hl1 : ¬ 60 < (joinW (done ++ [w])).length := by
        have := joinW_snoc_le (done ++ [w]) ws
        rw [List.append_assoc, List.singleton_append] at this
        omega
      by_cases hws : ws = []
      · subst hws
        have e : joinW [w] = w := rfl
        rw [e, sValL]
        simp only
        rw [takeWhile_ext hall hgw, if_neg hne, if_neg hl1, List.drop_left, then_of (by rw [gap_of hg, gap_stop _ hr])]
        simp only
        cases f with
        | zero => simp at hf
        | succ f =>
          rw [sValL]
          simp only
          have : r.takeWhile isWord = [] := takeWhile_ext (w := []) (by simp) hrw
          rw [this, if_pos rfl, if_neg (by simp)]
      · obtain ⟨c, t, hc, hcw⟩ := joinW_head hws (fun x hx => hw x (by simp [hx]))
        have hst : stops (joinW ws ++ (g ++ r)) = true := by rw [hc]; exact word_stops _ hcw
        rw [joinW_cons w ws hws, sValL]
        simp only
        have e : w ++ ([32] ++ joinW ws) ++ (g ++ r) = w ++ ([32] ++ (joinW ws ++ (g ++ r))) := by simp
        have h32 : IsGap [32] := .one (.inl rfl) .nil
        rw [e, takeWhile_ext hall (by rfl), if_neg hne, if_neg hl1, List.drop_left, then_of (by rw [gap_of h32, gap_stop _ hst])]
        simp only
        rw [val_read ws (done ++ [w]) g r f _ hws (fun x hx => hw x (by simp [hx])) (by simpa using hl) hg hr hrw hgw (by simp at hf; omega)]
        simp; omega
def declEnds (m : B) : Prop := m = [] ∨ ∃ t, m = 59 :: t
theorem declEnds.stops {m : B} (h : declEnds m) : stops m = true := by
  rcases h with rfl | ⟨t, rfl⟩
  · rfl
  · exact stops_cons _ (by decide)
theorem words_le (ws : List B) : ws.length ≤ (joinW ws).length + 1 := by
  induction ws with
  | nil => simp
  | cons w ws ih =>
    by_cases h : ws = []
    · subst h; simp
    · rw [joinW_cons w ws h]; simp; omega
theorem decl_read {d : PDecl} (h : DeclOk d) {m : B} (hm : declEnds m) (b : Nat) : sDecl (printOne d ++ m) b = .ok (d, m, b + (printOne d).length) := by
  obtain ⟨nm, v, st⟩ := d
  obtain ⟨h1, ws, hne, hw, rfl, hl⟩ := h
  simp only at h1 hl
  obtain ⟨c, t, hc, hcw⟩ := joinW_head hne hw
  have h32 : IsGap [32] := .one (.inl rfl) .nil
  have main : ∀ (g r : B), IsGap g → Go.Proofs.YtplbdlgmjehckadGreatDoor.stops r = true → r.head?.any isWord = false → (g ++ r).head?.any isWord = false → ∀ (st : Bool) (n : Nat), (∀ b, sStrong r b = .ok (st, m, b + n)) →
      sDecl (nm ++ ([58] ++ ([32] ++ (joinW ws ++ (g ++ r))))) b = .ok (⟨nm, joinW ws, st⟩, m, b + (nm.length + (1 + (1 + ((joinW ws).length + (g.length + n)))))) := by
    intro g r hg hr hrw hgw st n hs
    have hst : Go.Proofs.YtplbdlgmjehckadGreatDoor.stops (joinW ws ++ (g ++ r)) = true := by rw [hc]; exact word_stops _ hcw
    unfold sDecl
    rw [then_of (name_read h1 (by rfl) b)]
    simp only
    rw [then_of (gap_stop _ (by exact stops_cons (c := 58) _ (by decide)))]
    simp only
    rw [then_of (show pMust [58] ([58] ++ ([32] ++ (joinW ws ++ (g ++ r)))) (b + nm.length) = .ok ([32] ++ (joinW ws ++ (g ++ r)), b + nm.length + 1) from by unfold pMust; rw [if_pos (prefix_pos _ _)]; rfl)]
    simp only
    rw [then_of (show sGap ([32] ++ (joinW ws ++ (g ++ r))) (b + nm.length + 1) = .ok (joinW ws ++ (g ++ r), b + nm.length + 1 + 1) from by rw [gap_of h32, gap_stop _ hst]; rfl)]
    simp only
    have hv : sVal (joinW ws ++ (g ++ r)) (b + nm.length + 1 + 1) = .ok (joinW ws, r, b + nm.length + 1 + 1 + (joinW ws).length + g.length) := by
      unfold sVal
      have := words_le ws
      have hpos : 0 < (joinW ws).length := by rw [hc]; simp
      by_cases hx : (g ++ r) = []
      · have hg0 : g = [] := by simp at hx; exact hx.1
        have hr0 : r = [] := by simp at hx; exact hx.2
        subst hg0 hr0
        have hlt : ws.length < (joinW ws ++ ([] ++ [] : B)).length + 1 ∨ ws.length = (joinW ws).length + 1 := by simp; omega
        rcases hlt with hlt | hlt
        · exact val_read ws [] [] [] _ _ hne hw (by simpa using hl) hg hr hrw hgw hlt
        · exfalso
          have : ∀ ws : List B, ws ≠ [] → (∀ w ∈ ws, WordOk w) → ws.length ≤ (joinW ws).length := by
            intro ws
            induction ws with
            | nil => intro h; exact absurd rfl h
            | cons w ws ih =>
              intro _ hw
              have hwl : 0 < w.length := List.length_pos_iff.2 (hw w (by simp)).1
              by_cases h : ws = []
              · subst h; simp [joinW]; omega
              · rw [joinW_cons w ws h]
                have := ih h (fun x hx => hw x (by simp [hx]))
                simp; omega
          have := this ws hne hw
          omega
      · have : 0 < (g ++ r).length := List.length_pos_iff.2 hx
        exact val_read ws [] g r _ _ hne hw (by simpa using hl) hg hr hrw hgw (by rw [List.length_append]; omega)
    rw [then_of hv]
    simp only
    rw [then_of (hs _)]
    simp only
    congr 3; omega
  cases st with
  | false =>
    have := main [] m .nil hm.stops (by rcases hm with rfl | ⟨t, rfl⟩ <;> rfl) (by rcases hm with rfl | ⟨t, rfl⟩ <;> rfl) false 0 (fun b => by
      unfold sStrong
      rcases hm with rfl | ⟨t, rfl⟩
      · rfl
      · rw [if_neg (by simp [List.isPrefixOf])]; rfl)
    have e2 : nm.length + (1 + (1 + (joinW ws).length)) = nm.length + ((joinW ws).length + 1 + 1) := by omega
    simp only [List.nil_append, List.length_nil, Nat.add_zero, Nat.zero_add] at this
    rw [e2] at this
    simpa [printOne] using this
  | true =>
    have hs2 : Go.Proofs.YtplbdlgmjehckadGreatDoor.stops ([33] ++ (importantWord ++ m)) = true := stops_cons (c := 33) _ (by decide)
    have := main [32] ([33] ++ (importantWord ++ m)) h32 hs2 (by rfl) (by rfl) true 10 (fun b => by
      unfold sStrong
      rw [if_pos (prefix_pos _ _)]
      have hd : ([33] ++ (importantWord ++ m)).drop 1 = importantWord ++ m := rfl
      rw [hd, then_of (show pMust importantWord (importantWord ++ m) (b + 1) = .ok (m, b + 1 + 9) from by unfold pMust; rw [if_pos (prefix_pos _ _)]; simp [importantWord])]
      simp only
      rw [gap_stop _ hm.stops]
      rfl)
    have h9 : importantWord.length = 9 := rfl
    have e2 : nm.length + (1 + (1 + ((joinW ws).length + (([32] : B).length + 10)))) = nm.length + ((joinW ws).length + 11 + 1 + 1) := by simp; omega
    rw [e2] at this
    simpa [printOne, h9] using this
theorem print_cons (d : PDecl) (ds : List PDecl) (h : ds ≠ []) : sPrint (d :: ds) = printOne d ++ ([59] ++ ([32] ++ sPrint ds)) := by
  cases ds with
  | nil => exact absurd rfl h
  | cons x ds => simp [sPrint]
theorem printOne_head {d : PDecl} (h : DeclOk d) : ∃ c t, printOne d = c :: t ∧ isLow c = true := by
  obtain ⟨⟨c, t, hc, hl⟩, _⟩ := name_all h.1
  exact ⟨c, _, by unfold printOne; rw [hc]; rfl, hl⟩
theorem low_ready {c : UInt8} (t : B) (h : isLow c = true) : stops (c :: t) = true ∧ ((c :: t).isEmpty || ([125] : B).isPrefixOf (c :: t)) = false := by
  simp [isLow] at h
  have h125 : ¬ (125 : UInt8) = c := fun e => by
    have : c.toNat = 125 := by rw [← e]; rfl
    omega
  exact ⟨stops_cons _ (by omega), by simp [List.isPrefixOf, h125]⟩
theorem print_head {ds : List PDecl} (h : ds ≠ []) (hd : ∀ d ∈ ds, DeclOk d) : ∃ c t, sPrint ds = c :: t ∧ isLow c = true := by
  cases ds with
  | nil => exact absurd rfl h
  | cons d ds =>
    obtain ⟨c, t, hc, hl⟩ := printOne_head (hd d (by simp))
    by_cases hx : ds = []
    · subst hx; exact ⟨c, t, hc, hl⟩
    · exact ⟨c, t ++ ([59] ++ ([32] ++ sPrint ds)), by rw [print_cons d ds hx, hc]; rfl, hl⟩
theorem declsL_read : ∀ (ds done : List PDecl) (f b : Nat), ds ≠ [] → (∀ d ∈ ds, DeclOk d) → done.length + ds.length ≤ 20 → ds.length < f → ∃ b', sDeclsL f done (sPrint ds) b = .ok (done ++ ds, [], b')
  | [], _, _, _, h, _, _, _ => absurd rfl h
  | d :: ds, done, f, b, _, hd, hn, hf => by
    cases f with
    | zero => omega
    | succ f =>
      obtain ⟨c, t, hc, hl⟩ := printOne_head (hd d (by simp))
      by_cases hx : ds = []
      · subst hx
        have e : sPrint [d] = printOne d := rfl
        have hrd := decl_read (hd d (by simp)) (.inl rfl) b
        rw [List.append_nil] at hrd
        refine ⟨b + (printOne d).length, ?_⟩
        · rw [e, sDeclsL, hc, (low_ready t hl).2, if_neg (by simp), if_neg (by simp at hn; omega), ← hc, then_of hrd]
          simp [List.isPrefixOf]
      · obtain ⟨c2, t2, hc2, hl2⟩ := print_head hx (fun y hy => hd y (by simp [hy]))
        have hrd := decl_read (hd d (by simp)) (m := [59] ++ ([32] ++ sPrint ds)) (.inr ⟨_, rfl⟩) b
        obtain ⟨b', hb'⟩ := declsL_read ds (done ++ [d]) f (b + (printOne d).length + 1 + 1) hx (fun y hy => hd y (by simp [hy])) (by simp at hn ⊢; omega) (by simp at hf; omega)
        refine ⟨b', ?_⟩
        have h32 : IsGap [32] := .one (.inl rfl) .nil
        rw [print_cons d ds hx, sDeclsL]
        have e : printOne d ++ ([59] ++ ([32] ++ sPrint ds)) = c :: (t ++ ([59] ++ ([32] ++ sPrint ds))) := by rw [hc]; rfl
        rw [e, (low_ready _ hl).2, if_neg (by simp), if_neg (by simp at hn; omega), ← e, then_of hrd]
        simp only
        rw [if_pos (prefix_pos _ _)]
        have hdd : ([59] ++ ([32] ++ sPrint ds)).drop 1 = [32] ++ sPrint ds := rfl
        rw [hdd, then_of (show sGap ([32] ++ sPrint ds) (b + (printOne d).length + 1) = .ok (sPrint ds, b + (printOne d).length + 1 + 1) from by rw [gap_of h32, hc2, gap_stop _ (low_ready _ hl2).1]; rfl)]
        simp only
        rw [hb']; simp
theorem printOne_le {d : PDecl} (h : DeclOk d) : (printOne d).length ≤ 93 := by
  obtain ⟨⟨_, _, h1⟩, ws, _, _, _, h2⟩ := h
  unfold printOne
  have : ((if d.strong then [32, 33] ++ importantWord else []) : B).length ≤ 11 := by split <;> simp [importantWord]
  simp only [List.length_append, List.length_cons, List.length_nil]; omega
theorem print_le : ∀ {ds : List PDecl}, (∀ d ∈ ds, DeclOk d) → (sPrint ds).length ≤ 95 * ds.length
  | [], _ => by simp [sPrint]
  | d :: ds, h => by
    have h1 := printOne_le (h d (by simp))
    have h2 := print_le (fun y hy => h y (by simp [hy]) : ∀ y ∈ ds, DeclOk y)
    by_cases hx : ds = []
    · subst hx; simp [sPrint]; omega
    · rw [print_cons d ds hx]; simp; omega
theorem len_le_print : ∀ {ds : List PDecl}, (∀ d ∈ ds, DeclOk d) → ds.length ≤ (sPrint ds).length
  | [], _ => by simp
  | d :: ds, h => by
    have h2 := len_le_print (fun y hy => h y (by simp [hy]) : ∀ y ∈ ds, DeclOk y)
    obtain ⟨c, t, hc, _⟩ := printOne_head (h d (by simp))
    by_cases hx : ds = []
    · subst hx; simp [sPrint, hc]
    · rw [print_cons d ds hx]; simp; omega
theorem print_read {ds : List PDecl} (hd : ∀ d ∈ ds, DeclOk d) (hn : ds.length ≤ 20) : sDeclsOf (sPrint ds) = .ok ds := by
  have hle := print_le hd
  unfold sDeclsOf
  rw [if_neg (by omega)]
  unfold sDecls
  by_cases hx : ds = []
  · subst hx; rfl
  · obtain ⟨c, t, hc, hl⟩ := print_head hx hd
    have hst : Go.Proofs.YtplbdlgmjehckadGreatDoor.stops (sPrint ds) = true := by rw [hc]; exact (low_ready t hl).1
    rw [gap_stop 0 hst, Ans.ok_then]
    simp only
    have := len_le_print hd
    obtain ⟨b', hb'⟩ := declsL_read ds [] ((sPrint ds).length + 1) 0 hx hd (by simpa using hn) (by omega)
    rw [then_of hb']
    simp
theorem word_val {c : UInt8} (h : isWord c = true) : isVal c = true := by
  simp [isWord, isLow] at h
  simp [isVal]; omega
theorem joinW_val : ∀ {ws : List B}, (∀ w ∈ ws, WordOk w) → ∀ c ∈ joinW ws, isVal c = true
  | [], _, c, hc => by simp [joinW] at hc
  | w :: ws, h, c, hc => by
    by_cases hx : ws = []
    · subst hx; exact word_val ((h w (by simp)).2 c hc)
    · rw [joinW_cons w ws hx] at hc
      simp only [List.mem_append, List.mem_singleton] at hc
      rcases hc with hc | rfl | hc
      · exact word_val ((h w (by simp)).2 c hc)
      · decide
      · exact joinW_val (fun y hy => h y (by simp [hy])) c hc
theorem more_val {c : UInt8} (h : isMore c = true) : isVal c = true := by
  simp [isMore, isLow] at h
  simp [isVal]; omega
theorem printOne_val {d : PDecl} (h : DeclOk d) : ∀ c ∈ printOne d, isVal c = true := by
  obtain ⟨h1, ws, hne, hw, hv, hl⟩ := h
  intro c hc
  unfold printOne at hc
  rw [hv] at hc
  simp only [List.mem_append] at hc
  rcases hc with ((hc | hc) | hc) | hc
  · exact more_val ((name_all h1).2 c hc)
  · have : ∀ x ∈ ([58, 32] : B), isVal x = true := by decide
    exact this c hc
  · exact joinW_val hw c hc
  · split at hc
    · have : ∀ x ∈ ([32, 33] ++ importantWord : B), isVal x = true := by decide
      exact this c hc
    · cases hc
theorem print_val : ∀ {ds : List PDecl}, (∀ d ∈ ds, DeclOk d) → ∀ c ∈ sPrint ds, isVal c = true
  | [], _, c, hc => by simp [sPrint] at hc
  | d :: ds, h, c, hc => by
    by_cases hx : ds = []
    · subst hx; exact printOne_val (h d (by simp)) c hc
    · rw [print_cons d ds hx] at hc
      simp only [List.mem_append, List.mem_singleton] at hc
      rcases hc with hc | rfl | rfl | hc
      · exact printOne_val (h d (by simp)) c hc
      · decide
      · decide
      · exact print_val (fun y hy => h y (by simp [hy])) c hc
end Go.Proofs.YtplbdlgmjehckadGreatDoor

namespace Go.Proofs.YtplbdlgmjehckadGreatDoor
set_option linter.unusedVariables false
set_option linter.unusedSimpArgs false
def SB (n : Nat) (f : Flt) : Prop := f.err ≠ 0 ∧ f.pos ≤ n
def SF {α : Type} (n : Nat) (r : Ans (α × B × Nat)) : Prop := match r with
  | .bad f => SB n f
  | .ok (_, l, a) => a + l.length = n
def SG (n : Nat) (r : Ans (B × Nat)) : Prop := match r with
  | .bad f => SB n f
  | .ok (l, a) => a + l.length = n
theorem SF.then {α β : Type} {n : Nat} {r : Ans (α × B × Nat)} {k : α × B × Nat → Ans (β × B × Nat)} (h : SF n r) (hk : ∀ v l a, a + l.length = n → SF n (k (v, l, a))) : SF n (r.then k) := by
  cases r with
  | bad f => exact h
  | ok x => obtain ⟨v, l, a⟩ := x; exact hk v l a h
theorem SG.then {β : Type} {n : Nat} {r : Ans (B × Nat)} {k : B × Nat → Ans (β × B × Nat)} (h : SG n r) (hk : ∀ l a, a + l.length = n → SF n (k (l, a))) : SF n (r.then k) := by
  cases r with
  | bad f => exact h
  | ok x => obtain ⟨l, a⟩ := x; exact hk l a h
theorem sb {n a e : Nat} {l : B} (h : a + l.length = n) (he : e ≠ 0) : SB n ⟨e, a⟩ := ⟨he, by show a ≤ n; omega⟩
theorem prefix_le2 {w l : B} (h : w.isPrefixOf l = true) : w.length ≤ l.length := (List.isPrefixOf_iff_prefix.1 h).length_le
theorem drop_at {w l : B} {a n : Nat} (hp : w.isPrefixOf l = true) (h : a + l.length = n) : a + w.length + (l.drop w.length).length = n := by
  have := prefix_le2 hp; simp; omega
theorem sgaps_fine : ∀ (f : Nat) {n : Nat} (l : B) (a : Nat), a + l.length = n → SG n (sGaps f l a)
  | 0, n, l, a, h => ⟨by simp, Nat.zero_le _⟩
  | f + 1, n, [], a, h => h
  | f + 1, n, c :: t, a, h => by
    simp only [sGaps]
    split
    · exact sgaps_fine f t _ (by simp at h; omega)
    · split
      · rename_i hp
        have hp2 := prefix_le2 hp
        split
        · exact sb h (by simp)
        · rename_i e hf
          have := findSub_le _ _ _ hf
          refine sgaps_fine f _ _ ?_
          simp only [List.length_drop, gapEnd, gapBegin, List.length_cons, List.length_nil] at this hp2 h ⊢
          omega
      · exact h
theorem sgap_fine {n : Nat} {l : B} {a : Nat} (h : a + l.length = n) : SG n (sGap l a) := sgaps_fine _ l a h
theorem sname_fine {n : Nat} {l : B} {a : Nat} (h : a + l.length = n) : SF n (sName l a) := by
  have := nameLen_le l
  unfold sName
  split
  · exact sb h (by simp)
  · show _ + _ = n; simp; omega
theorem smust_fine {n : Nat} {w l : B} {a : Nat} (h : a + l.length = n) : SG n (pMust w l a) := by
  unfold pMust
  split
  · rename_i hp; exact drop_at hp h
  · exact sb h (by simp)
theorem sattrTest_fine {n : Nat} {l : B} {a : Nat} (h : a + l.length = n) : SF n (sAttrTest l a) := by
  refine (sname_fine h).then fun v l a h => ?_
  simp only
  split
  · exact sb h (by simp)
  · split
    · rename_i hp
      refine (sname_fine (drop_at hp h)).then fun v l a h => ?_
      exact (smust_fine h).then fun l a h => h
    · exact (smust_fine h).then fun l a h => h
theorem stest_fine {n : Nat} {l : B} {a : Nat} (h : a + l.length = n) : SF n (sTest l a) := by
  unfold sTest
  split
  · rename_i hp; exact (sname_fine (drop_at hp h)).then fun v l a h => h
  · split
    · rename_i hp; exact (sname_fine (drop_at hp h)).then fun v l a h => h
    · split
      · rename_i hp; exact drop_at hp h
      · split
        · rename_i hp; exact (sattrTest_fine (drop_at hp h)).then fun v l a h => h
        · exact h
theorem stestsL_fine : ∀ (f : Nat) {n : Nat} (ts : List PTest) (q : Bool) (l : B) (a : Nat), a + l.length = n → SF n (sTestsL f ts q l a)
  | 0, n, ts, q, l, a, h => ⟨by simp, Nat.zero_le _⟩
  | f + 1, n, ts, q, l, a, h => by
    rw [sTestsL]
    refine (stest_fine h).then fun v l1 a1 h1 => ?_
    cases v with
    | none =>
      simp only
      split
      · exact h
      · exact sb h (by simp)
    | some t =>
      simp only
      split
      · exact sb h1 (by simp)
      · exact stestsL_fine f _ _ _ _ h1
theorem stests_fine {n : Nat} {l : B} {a : Nat} (h : a + l.length = n) : SF n (sTests l a) := by
  unfold sTests sHead
  split
  · rename_i hp; exact stestsL_fine _ _ _ _ _ (drop_at hp h)
  · split
    · exact stestsL_fine _ _ _ _ _ h
    · have := sname_fine h
      cases hx : sName l a with
      | bad f => rw [hx] at this; exact this
      | ok x => rw [hx] at this; exact stestsL_fine _ _ _ _ _ this
theorem sjoin_fine {n : Nat} {l : B} {a : Nat} (h : a + l.length = n) : SF n (sJoin l a) := by
  refine (sgap_fine h).then fun l a h => ?_
  simp only
  split
  · rename_i hp; exact (sgap_fine (drop_at hp h)).then fun l a h => h
  · split
    · rename_i hp; exact (sgap_fine (drop_at hp h)).then fun l a h => h
    · split
      · exact h
      · exact h
theorem sselL_fine : ∀ (f : Nat) {n : Nat} (ps : List PPart) (l : B) (a : Nat), a + l.length = n → SF n (sSelL f ps l a)
  | 0, n, ps, l, a, h => ⟨by simp, Nat.zero_le _⟩
  | f + 1, n, ps, l, a, h => by
    rw [sSelL]
    refine (sjoin_fine h).then fun v l1 a1 h1 => ?_
    cases v with
    | none => exact h1
    | some t =>
      simp only
      split
      · exact sb h1 (by simp)
      · exact (stests_fine h1).then fun v l a h => sselL_fine f _ _ _ h
theorem ssel_fine {n : Nat} {l : B} {a : Nat} (h : a + l.length = n) : SF n (sSel l a) :=
  (stests_fine h).then fun v l a h => sselL_fine _ _ _ _ h
theorem svalL_fine : ∀ (f : Nat) {n : Nat} (ws : List B) (l : B) (a : Nat), a + l.length = n → SF n (sValL f ws l a)
  | 0, n, ws, l, a, h => ⟨by simp, Nat.zero_le _⟩
  | f + 1, n, ws, l, a, h => by
    rw [sValL]
    simp only
    split
    · split
      · exact sb h (by simp)
      · exact h
    · split
      · exact sb h (by simp)
      · refine (sgap_fine ?_).then fun l a h => svalL_fine f _ _ _ h
        have := takeWhile_len_le isWord l
        simp; omega
theorem sstrong_fine {n : Nat} {l : B} {a : Nat} (h : a + l.length = n) : SF n (sStrong l a) := by
  unfold sStrong
  split
  · rename_i hp
    have hm := smust_fine (w := importantWord) (drop_at hp h)
    simp only [List.length_cons, List.length_nil, Nat.zero_add] at hm
    cases hx : pMust importantWord (l.drop 1) (a + 1) with
    | bad f => rw [hx] at hm; exact hm
    | ok x => rw [hx] at hm; exact (sgap_fine hm).then fun l a h => h
  · exact h
theorem sdecl_fine {n : Nat} {l : B} {a : Nat} (h : a + l.length = n) : SF n (sDecl l a) := by
  refine (sname_fine h).then fun v l a h => ?_
  refine (sgap_fine h).then fun l a h => ?_
  refine (smust_fine h).then fun l a h => ?_
  refine (sgap_fine h).then fun l a h => ?_
  refine (svalL_fine _ _ _ _ h).then fun v l a h => ?_
  exact (sstrong_fine h).then fun v l a h => h
theorem sdeclsL_fine : ∀ (f : Nat) {n : Nat} (ds : List PDecl) (l : B) (a : Nat), a + l.length = n → SF n (sDeclsL f ds l a)
  | 0, n, ds, l, a, h => ⟨by simp, Nat.zero_le _⟩
  | f + 1, n, ds, l, a, h => by
    rw [sDeclsL]
    split
    · exact h
    · split
      · exact sb h (by simp)
      · refine (sdecl_fine h).then fun v l a h => ?_
        simp only
        split
        · rename_i hp; exact (sgap_fine (drop_at hp h)).then fun l a h => sdeclsL_fine f _ _ _ h
        · exact h
theorem sdecls_fine {n : Nat} {l : B} {a : Nat} (h : a + l.length = n) : SF n (sDecls l a) := (sgap_fine h).then fun l a h => sdeclsL_fine _ _ _ _ h
theorem sselsL_fine : ∀ (f : Nat) {n : Nat} (ss : List PSel) (l : B) (a : Nat), a + l.length = n → SF n (sSelsL f ss l a)
  | 0, n, ss, l, a, h => ⟨by simp, Nat.zero_le _⟩
  | f + 1, n, ss, l, a, h => by
    rw [sSelsL]
    split
    · exact sb h (by simp)
    · refine (ssel_fine h).then fun v l a h => ?_
      simp only
      split
      · rename_i hp; exact (sgap_fine (drop_at hp h)).then fun l a h => sselsL_fine f _ _ _ h
      · exact h
theorem srule_fine {n : Nat} {md l : B} {a : Nat} (h : a + l.length = n) : SF n (sRule md l a) := by
  refine (sselsL_fine _ _ _ _ h).then fun v l a h => ?_
  refine (smust_fine h).then fun l a h => ?_
  refine (sdecls_fine h).then fun v l a h => ?_
  exact (smust_fine h).then fun l a h => h
theorem smedia_fine {n : Nat} {l : B} {a : Nat} (h : a + l.length = n) : SF n (sMediaHead l a) := by
  refine (sgap_fine h).then fun l1 a1 h1 => ?_
  simp only
  split
  · exact sb h1 (by simp)
  · refine (sname_fine h1).then fun v l a h => ?_
    refine (sgap_fine h).then fun l a h => ?_
    exact (smust_fine h).then fun l a h => h
theorem srulesL_fine : ∀ (f : Nat) {n : Nat} (md : B) (rs : List PRule) (l : B) (a : Nat), a + l.length = n → SF n (sRulesL f md rs l a)
  | 0, n, md, rs, l, a, h => ⟨by simp, Nat.zero_le _⟩
  | f + 1, n, md, rs, l, a, h => by
    rw [sRulesL]
    split
    · exact h
    · split
      · rename_i hp
        rw [Bool.and_eq_true] at hp
        refine (smedia_fine (drop_at hp.2 h)).then fun v l a h => ?_
        refine (sgap_fine h).then fun l a h => ?_
        refine (srulesL_fine f _ _ _ _ h).then fun v l a h => ?_
        refine (smust_fine h).then fun l a h => ?_
        exact (sgap_fine h).then fun l a h => srulesL_fine f _ _ _ _ h
      · split
        · exact sb h (by simp)
        · refine (srule_fine h).then fun v l a h => ?_
          exact (sgap_fine h).then fun l a h => srulesL_fine f _ _ _ _ h
theorem sparse_bad {s : B} {f : Flt} (h : sParse s = .bad f) : f.err ≠ 0 ∧ f.pos ≤ s.length := by
  unfold sParse at h
  split at h
  · cases h; exact ⟨by simp, Nat.zero_le _⟩
  · have h1 : SF s.length ((sGap s 0).then fun x => sRulesL (s.length + 1) [] [] x.1 x.2) := (sgap_fine (by simp)).then fun l a h => srulesL_fine _ _ _ _ _ h
    cases hg : sGap s 0 with
    | bad g => rw [hg] at h h1; cases h; exact h1
    | ok x =>
      rw [hg] at h h1
      simp only [Ans.ok_then] at h h1
      cases hr : sRulesL (s.length + 1) [] [] x.1 x.2 with
      | bad g => rw [hr] at h h1; cases h; exact h1
      | ok y =>
        rw [hr] at h h1
        obtain ⟨v, l, a⟩ := y
        simp only [Ans.ok_then] at h
        have h2 : a + l.length = s.length := h1
        split at h
        · cases h
        · cases h; exact sb h2 (by simp)
theorem sdeclsOf_bad {s : B} {f : Flt} (h : sDeclsOf s = .bad f) : f.err ≠ 0 ∧ f.pos ≤ s.length := by
  unfold sDeclsOf at h
  split at h
  · cases h; exact ⟨by simp, Nat.zero_le _⟩
  · have h1 : SF s.length (sDecls s 0) := sdecls_fine (by simp)
    cases hr : sDecls s 0 with
    | bad g => rw [hr] at h h1; cases h; exact h1
    | ok y =>
      rw [hr] at h h1
      obtain ⟨v, l, a⟩ := y
      simp only [Ans.ok_then] at h
      have h2 : a + l.length = s.length := h1
      split at h
      · cases h
      · cases h; exact sb h2 (by simp)
end Go.Proofs.YtplbdlgmjehckadGreatDoor

namespace Go.Proofs.YtplbdlgmjehckadGreatDoor
set_option linter.unusedVariables false
set_option linter.unusedSimpArgs false
def sub (s : B) (a b : Nat) : B := (s.drop a).take (b - a)
theorem sub_append (s : B) {a b c : Nat} (h1 : a ≤ b) (h2 : b ≤ c) : sub s a b ++ sub s b c = sub s a c := by
  unfold sub
  rw [show c - a = (b - a) + (c - b) from by omega, List.take_add, List.drop_drop, show a + (b - a) = b from by omega]
theorem sub_len (s : B) {a b : Nat} (h1 : a ≤ b) (h2 : b ≤ s.length) : (sub s a b).length = b - a := by
  unfold sub; rw [List.length_take, List.length_drop]; omega
theorem sub_of_prefix {s w : B} {a : Nat} (h : w.isPrefixOf (s.drop a) = true) : sub s a (a + w.length) = w := by
  unfold sub
  rw [Nat.add_sub_cancel_left]
  exact (List.prefix_iff_eq_take.1 (List.isPrefixOf_iff_prefix.1 h)).symm
theorem prefix_le {s w : B} {a : Nat} (h : w.isPrefixOf (s.drop a) = true) (hw : w ≠ []) : a + w.length ≤ s.length := by
  have := (List.isPrefixOf_iff_prefix.1 h).length_le
  have : 0 < w.length := List.length_pos_iff.2 hw
  rw [List.length_drop] at *
  omega
def Fine (s : B) {α : Type} (Q : α → Prop) : Ans α → Prop
  | .bad f => f.err ≠ 0 ∧ f.pos ≤ s.length
  | .ok x => Q x
theorem Fine.then {s : B} {α β : Type} {Q : α → Prop} {R : β → Prop} {r : Ans α} {k : α → Ans β} (h : Fine s Q r) (hk : ∀ x, Q x → Fine s R (k x)) : Fine s R (r.then k) := by
  cases r with
  | bad f => exact h
  | ok x => exact hk x h
theorem Fine.mono {s : B} {α : Type} {Q R : α → Prop} {r : Ans α} (h : Fine s Q r) (hk : ∀ x, Q x → R x) : Fine s R r := by
  cases r with
  | bad f => exact h
  | ok x => exact hk x h
theorem name_fact (s : B) (a : Nat) (ha : a ≤ s.length) :
    Fine s (fun x : B × B × Nat => x.1 = sub s a x.2.2 ∧ x.2.2 = a + x.1.length ∧ 1 ≤ x.1.length ∧ x.2.1 = s.drop x.2.2 ∧ x.2.2 ≤ s.length) (pName (s.drop a) a) := by
  unfold pName
  have h := nameLen_le (s.drop a)
  rw [List.length_drop] at h
  split
  · exact ⟨by simp, ha⟩
  · split
    · exact ⟨by simp, ha⟩
    · have e : ((s.drop a).take (nameLen (s.drop a))).length = nameLen (s.drop a) := by rw [List.length_take, List.length_drop]; omega
      refine ⟨?_, ?_, ?_, ?_, ?_⟩
      · show _ = sub s a (a + _); unfold sub; rw [Nat.add_sub_cancel_left]
      · show _ = a + List.length _; rw [e]
      · show 1 ≤ List.length _; rw [e]; omega
      · show List.drop _ _ = _; rw [List.drop_drop]
      · show a + _ ≤ _; omega
theorem must_fact (s w : B) (a : Nat) (ha : a ≤ s.length) (hw : w ≠ []) :
    Fine s (fun x : B × Nat => sub s a x.2 = w ∧ x.2 = a + w.length ∧ x.1 = s.drop x.2 ∧ x.2 ≤ s.length) (pMust w (s.drop a) a) := by
  unfold pMust
  split
  · rename_i h
    exact ⟨sub_of_prefix h, rfl, by show List.drop _ _ = _; rw [List.drop_drop], prefix_le h hw⟩
  · exact ⟨by simp, ha⟩
def APl (s : B) (lo : Nat) (x : PAttr) : Prop :=
  ∃ b c : Nat, x.lo = b ∧ x.hi = c ∧ lo ≤ b ∧ b ≤ c ∧ c ≤ s.length ∧ sub s b c = [32] ++ x.name ++ [61, 34] ++ x.val ++ [34]
theorem attr_fact (s : B) (al : List PAttr) (a : Nat) (h : ([32] : B).isPrefixOf (s.drop a) = true) :
    Fine s (fun x : PAttr × B × Nat => APl s a x.1 ∧ x.2.1 = s.drop x.2.2 ∧ a ≤ x.2.2 ∧ x.2.2 ≤ s.length) (pAttr al (s.drop a) a) := by
  have h1 : a + 1 ≤ s.length := prefix_le h (by simp)
  have h2 : sub s a (a + 1) = [32] := sub_of_prefix h
  unfold pAttr
  rw [List.drop_drop]
  refine (name_fact s (a + 1) h1).then ?_
  rintro ⟨nm, l2, a2⟩ ⟨hn, ha2, hn1, he_, hl2⟩
  dsimp only at *
  subst he_
  split
  · exact ⟨by simp; split <;> decide, h1⟩
  · refine (must_fact s [61, 34] a2 hl2 (by simp)).then ?_
    rintro ⟨l3, a3⟩ ⟨he, ha3, he_, hl3⟩
    dsimp only at *
    subst he_
    rw [List.drop_drop]
    have hv : a3 + (pVal (s.drop a3)).length ≤ s.length := by
      have := takeWhile_len_le isVal (s.drop a3)
      rw [List.length_drop] at this
      unfold pVal; omega
    refine (must_fact s [34] _ hv (by simp)).then ?_
    rintro ⟨l5, a5⟩ ⟨he5, ha5, he_, hl5⟩
    dsimp only at *
    subst he_
    simp only [List.length_cons, List.length_nil] at ha3 ha5
    refine ⟨⟨a, a5, rfl, rfl, Nat.le_refl _, by omega, hl5, ?_⟩, rfl, by show a ≤ a5; omega, hl5⟩
    have hval : sub s a3 (a3 + (pVal (s.drop a3)).length) = pVal (s.drop a3) := by
      unfold sub; rw [Nat.add_sub_cancel_left]; exact takeWhile_take isVal _
    rw [← sub_append s (show a ≤ a3 + (pVal (s.drop a3)).length from by omega) (show _ ≤ a5 from by omega), ← sub_append s (show a ≤ a3 from by omega) (show a3 ≤ a3 + (pVal (s.drop a3)).length from by omega),
      ← sub_append s (show a ≤ a2 from by omega) (show a2 ≤ a3 from by omega), ← sub_append s (show a ≤ a + 1 from by omega) (show a + 1 ≤ a2 from by omega), h2, ← hn, he, hval, he5]
theorem attrs_fact (s : B) (lo : Nat) : ∀ (f : Nat) (al : List PAttr) (a : Nat), a ≤ s.length → lo ≤ a → (∀ x ∈ al, APl s lo x) →
    Fine s (fun x : List PAttr × B × Nat => (∀ y ∈ x.1, APl s lo y) ∧ x.2.1 = s.drop x.2.2 ∧ a ≤ x.2.2 ∧ x.2.2 ≤ s.length) (pAttrs f al (s.drop a) a)
  | 0, _, _, _, _, _ => ⟨by simp, Nat.zero_le _⟩
  | f + 1, al, a, ha, hlo, h => by
    unfold pAttrs
    split
    · rename_i hp
      refine (attr_fact s al a hp).then ?_
      rintro ⟨x, l', a'⟩ ⟨hx, he_, h1, h2⟩
      dsimp only at *
      subst he_
      refine (attrs_fact s lo f (al ++ [x]) a' h2 (by omega) ?_).mono ?_
      · intro y hy
        rcases List.mem_append.1 hy with hy | hy
        · exact h y hy
        · rw [List.mem_singleton] at hy; subst hy
          obtain ⟨b, c, e1, e2, e3, rest⟩ := hx
          exact ⟨b, c, e1, e2, by omega, rest⟩
      · rintro ⟨al2, l2, a2⟩ ⟨q1, q2, q3, q4⟩
        exact ⟨q1, q2, by dsimp only at *; omega, q4⟩
    · exact ⟨h, rfl, Nat.le_refl _, ha⟩
def TagPl (s : B) (n : PNode) : Prop :=
  ∃ e : Nat, n.nameEnd = e ∧ e ≤ s.length ∧ n.name.length + 1 ≤ e ∧ sub s (e - n.name.length - 1) e = [60] ++ n.name ∧ ∀ x ∈ n.attrs, APl s e x
def InPl (s : B) (n : PNode) : Prop := ∃ p q : Nat, n.inF = p ∧ n.inT = q ∧ p ≤ q ∧ q ≤ s.length
def NPl (s : B) (i : Nat) (n : PNode) : Prop := -1 ≤ n.parent ∧ n.parent < i ∧ TagPl s n ∧ InPl s n
theorem open_fact (s : B) (parent : Int) (deep count a : Nat) (ha : a ≤ s.length) :
    Fine s (fun x : PNode × B × Nat => x.1.parent = parent ∧ x.1.inF = 0 ∧ x.1.inT = 0 ∧ TagPl s x.1 ∧ x.2.1 = s.drop x.2.2 ∧ a ≤ x.2.2 ∧ x.2.2 ≤ s.length) (pOpen parent deep count (s.drop a) a) := by
  unfold pOpen
  split
  · exact ⟨by simp, ha⟩
  split
  · exact ⟨by simp, ha⟩
  refine (must_fact s [60] a ha (by simp)).then ?_
  rintro ⟨l1, a1⟩ ⟨h1, h2, he_, h3⟩
  dsimp only at *
  subst he_
  simp only [List.length_cons, List.length_nil] at h2
  refine (name_fact s a1 h3).then ?_
  rintro ⟨nm, l2, a2⟩ ⟨hn, ha2, hn1, he_, hl2⟩
  dsimp only at *
  subst he_
  refine (attrs_fact s a2 _ [] a2 hl2 (Nat.le_refl _) (fun x hx => by cases hx)).then ?_
  rintro ⟨al, l3, a3⟩ ⟨g1, he_, g2, g3⟩
  dsimp only at *
  subst he_
  refine (must_fact s [62] a3 g3 (by simp)).then ?_
  rintro ⟨l4, a4⟩ ⟨k1, k2, he_, k3⟩
  dsimp only at *
  subst he_
  simp only [List.length_cons, List.length_nil] at k2
  refine ⟨rfl, rfl, rfl, ⟨a2, rfl, hl2, by show nm.length + 1 ≤ a2; omega, ?_, g1⟩, rfl, by show a ≤ a4; omega, k3⟩
  show sub s (a2 - nm.length - 1) a2 = [60] ++ nm
  rw [show a2 - nm.length - 1 = a from by omega, ← sub_append s (show a ≤ a1 from by omega) (show a1 ≤ a2 from by omega), h1, ← hn]
def NodesPl (s : B) (ns : List PNode) : Prop := ∀ i n, ns[i]? = some n → NPl s i n
def After (s : B) (a : Nat) (ns : List PNode) (x : List PNode × B × Nat) : Prop := NodesPl s x.1 ∧ ns.length ≤ x.1.length ∧ a ≤ x.2.2 ∧ x.2.2 ≤ s.length ∧ x.2.1 = s.drop x.2.2
theorem NodesPl.push {s : B} {ns : List PNode} {n : PNode} (h : NodesPl s ns) (hn : NPl s ns.length n) : NodesPl s (ns ++ [n]) := by
  intro i m hm
  by_cases hi : i < ns.length
  · rw [List.getElem?_append_left hi] at hm; exact h i m hm
  · have hi2 := (List.getElem?_eq_some_iff.1 hm).1
    simp at hi2
    have : i = ns.length := by omega
    subst this
    simp at hm
    subst hm; exact hn
theorem elem_fact (s : B) (items : Int → Nat → List PNode → B → Nat → Ans (List PNode × B × Nat))
    (hit : ∀ (parent : Int) (deep : Nat) (ns : List PNode) (a : Nat), -1 ≤ parent → parent < ns.length → NodesPl s ns → a ≤ s.length → Fine s (After s a ns) (items parent deep ns (s.drop a) a))
    (parent : Int) (deep : Nat) (ns : List PNode) (a : Nat) (hp : -1 ≤ parent) (hp2 : parent < ns.length) (hns : NodesPl s ns) (ha : a ≤ s.length) :
    Fine s (After s a ns) (pElem items parent deep ns (s.drop a) a) := by
  unfold pElem
  refine (open_fact s parent deep ns.length a ha).then ?_
  rintro ⟨n, l1, a1⟩ ⟨h1, h2, h3, h4, he_, h6, h7⟩
  dsimp only at *
  subst he_
  have hin : Fine s (After s a1 (ns ++ [n])) (pInside items deep ns n (s.drop a1) a1) := by
    unfold pInside
    split
    · cases hf : findSub styleEnd (s.drop a1) with
      | none => exact ⟨by simp, by simp; omega⟩
      | some e =>
        have := findSub_le _ _ _ hf
        rw [List.length_drop] at this
        refine ⟨hns.push ⟨by rw [← h1] at hp; exact hp, by rw [← h1] at hp2; exact hp2, h4, ⟨a1, a1 + e, rfl, rfl, by omega, by omega⟩⟩, by simp, by show a1 ≤ a1 + e; omega, by show a1 + e ≤ _; omega, by show List.drop _ _ = _; rw [List.drop_drop]⟩
    · refine hit _ _ _ _ (by omega) (by simp; omega) (hns.push ⟨by rw [h1]; exact hp, by rw [h1]; exact hp2, h4, ⟨0, 0, h2, h3, Nat.le_refl _, Nat.zero_le _⟩⟩) h7
  refine hin.then ?_
  rintro ⟨ns2, l2, a2⟩ ⟨g1, g2, g3, g4, g5⟩
  dsimp only at *
  subst g5
  refine (must_fact s _ a2 g4 (by simp)).then ?_
  rintro ⟨l3, a3⟩ ⟨k1, k2, he_, k4⟩
  dsimp only at *
  subst he_
  simp only [List.length_append, List.length_cons, List.length_nil] at g2
  exact ⟨g1, by show ns.length ≤ ns2.length; omega, by show a ≤ a3; omega, k4, rfl⟩
theorem items_fact (s : B) : ∀ (f : Nat) (parent : Int) (deep : Nat) (ns : List PNode) (a : Nat), -1 ≤ parent → parent < ns.length → NodesPl s ns → a ≤ s.length →
    Fine s (After s a ns) (pItems f parent deep ns (s.drop a) a)
  | 0, _, _, _, _, _, _, _, _ => ⟨by simp, Nat.zero_le _⟩
  | f + 1, parent, deep, ns, a, hp, hp2, hns, ha => by
    have stop : After s a ns (ns, s.drop a, a) := ⟨hns, Nat.le_refl _, Nat.le_refl _, ha, rfl⟩
    by_cases hlt : a < s.length
    · have step : ∀ a', a ≤ a' → a' ≤ s.length → Fine s (After s a ns) (pItems f parent deep ns (s.drop a') a') := fun a' h1 h2 =>
        (items_fact s f parent deep ns a' hp hp2 hns h2).mono fun x hx => ⟨hx.1, hx.2.1, Nat.le_trans h1 hx.2.2.1, hx.2.2.2⟩
      have e := List.drop_eq_getElem_cons hlt
      have el : (s[a] :: s.drop (a + 1)).length = s.length - a := by rw [← e]; exact List.length_drop
      have ed : ∀ k, (s[a] :: s.drop (a + 1)).drop k = s.drop (a + k) := fun k => by rw [← e, List.drop_drop]
      rw [e, pItems, el, show a + (s.length - a) = s.length from by omega]
      simp only [ed]
      split
      · rw [← e]; exact stop
      · split
        · rename_i hnb
          rw [← e] at hnb
          have h4 := prefix_le hnb (by simp [noteBegin])
          cases hf : findSub noteEnd (s.drop (a + 4)) with
          | none => exact ⟨by simp, by simp⟩
          | some k =>
            have := findSub_le _ _ _ hf
            rw [List.length_drop] at this
            have hl3 : noteEnd.length = 3 := rfl
            have hl4 : noteBegin.length = 4 := rfl
            exact step _ (by omega) (by omega)
        · split
          · rw [← e]
            refine (elem_fact s (pItems f) (fun p d n b x1 x2 x3 x4 => items_fact s f p d n b x1 x2 x3 x4) parent deep ns a hp hp2 hns ha).then ?_
            rintro ⟨ns2, l2, a2⟩ ⟨g1, g2, g3, g4, g5⟩
            dsimp only at *
            subst g5
            exact (items_fact s f parent deep ns2 a2 hp (by omega) g1 g4).mono fun x hx => ⟨hx.1, Nat.le_trans g2 hx.2.1, Nat.le_trans g3 hx.2.2.1, hx.2.2.2⟩
          · split
            · exact step _ (by omega) (by omega)
            · exact ⟨by simp, by simp; omega⟩
    · have e0 : s.drop a = [] := List.drop_of_length_le (by omega)
      rw [e0] at stop ⊢
      rw [pItems]
      exact stop
theorem parse_fact (s : B) : Fine s (NodesPl s) (pParse s) := by
  unfold pParse
  split
  · exact ⟨by simp, Nat.zero_le _⟩
  · have := items_fact s (s.length + 1) (-1) 1 [] 0 (by omega) (by simp) (fun i n h => by simp at h) (Nat.zero_le _)
    rw [List.drop_zero] at this
    refine this.then ?_
    rintro ⟨ns, l, a⟩ ⟨h1, h2, h3, h4, h5⟩
    dsimp only at *
    split
    · exact h1
    · exact ⟨by simp, by simpa using h4⟩
end Go.Proofs.YtplbdlgmjehckadGreatDoor

