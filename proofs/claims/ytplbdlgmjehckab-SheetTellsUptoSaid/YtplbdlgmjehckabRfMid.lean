/-
  The document's answer: how far a walk has come, alive or not; a declaration's box; more steps.
-/
import Derived.Test.YtplbdlgmjehckabRfBlank
import Derived.Test.YtplbdlgmjehckabShCells
import Derived.Test.YtplbdlgmjehckabShTurns
namespace Go.Proofs.Ytplbdlgmjehckab
open Go.RowKit
set_option linter.unusedVariables false
set_option linter.unusedSimpArgs false

/-- how far A's answer has come, asked of a walk whose fault was f0 -/
def Mid {α : Type} (f0 : Flt) (A : Ans α) (f : Flt) (X : Ans α) : Prop := (f0.err ≠ 0 → f = f0) ∧ (f0.err = 0 → St A f X)
section
variable {α β : Type} {f0 f f' : Flt} {A X Y : Ans α}
theorem Mid.start (A : Ans α) (f : Flt) : Mid f A f A := ⟨fun _ => rfl, fun hf => ⟨fun hh => absurd hf hh, fun _ => rfl⟩⟩
theorem Mid.step {R : Ans β} {k : β → Ans α} {x : β} (h : Mid f0 A f (R.then k)) (hs : Step f R f' x) : Mid f0 A f' (k x) := by
  refine ⟨fun hh => ?_, fun hh => (h.2 hh).step hs⟩
  have := h.1 hh
  subst this
  exact hs.1 hh
theorem Mid.fin {x : α} (h : Mid f0 A f (.ok x)) : Step f0 A f x := by
  refine ⟨h.1, fun hh => ?_⟩
  by_cases hf : f.err = 0
  · exact .inl ⟨hf, (h.2 hh).2 hf⟩
  · exact .inr ⟨hf, (h.2 hh).1 hf⟩
theorem Mid.live (h : Mid f0 A f X) (hf : f.err = 0) : f0.err = 0 ∧ A = X := by
  by_cases hh : f0.err = 0
  · exact ⟨hh, (h.2 hh).2 hf⟩
  · rw [h.1 hh] at hf; exact absurd hf hh
theorem Mid.kill (h : Mid f0 A f X) (hf : f.err = 0) (hX : X = .bad f') (hf' : f'.err ≠ 0) : Mid f0 A f' Y := by
  obtain ⟨h1, h2⟩ := h.live hf
  exact ⟨fun hh => absurd h1 hh, fun _ => ⟨fun _ => h2.trans hX, fun hh => absurd hh hf'⟩⟩
theorem Mid.dead (h : Mid f0 A f X) (hf : f.err ≠ 0) : Mid f0 A f Y := ⟨h.1, fun hh => ⟨(h.2 hh).1, fun h0 => absurd h0 hf⟩⟩
theorem Mid.eq (h : Mid f0 A f X) (hX : f.err = 0 → X = Y) : Mid f0 A f Y := ⟨h.1, fun hh => ⟨(h.2 hh).1, fun h0 => ((h.2 hh).2 h0).trans (hX h0)⟩⟩
end

theorem eat_gen (word : B) (w : World) (b : Nat) (s : B) (a : Nat) (f : Flt) (v : Value) (h : WkAt w b s a f v) (hw : word.length ≤ 100) (hne : word ≠ []) :
    Calls Try.prog 38 #[.pointer (some ⟨b, 0, none⟩), .string (str word)] w fun e w' => ∃ x : Bool, e = .returned (.bool x) ∧ Kept (· = b) w w' ∧ ∃ a', WkAt w' b s a' f v ∧
      (x = true → f.err = 0 ∧ word.isPrefixOf (s.drop a) = true ∧ a' = a + word.length) ∧ (x = false → a' = a ∧ (f.err = 0 → word.isPrefixOf (s.drop a) = false)) := by
  by_cases hf : f.err = 0
  · cases hx : word.isPrefixOf (s.drop a) with
    | true =>
      refine (eat_yes word _ _ _ _ _ _ h hf hw hne hx).mono ?_
      rintro e w1 ⟨rfl, hk, h1⟩
      exact ⟨true, rfl, hk, _, h1, fun _ => ⟨hf, rfl, rfl⟩, fun hh => by cases hh⟩
    | false =>
      refine (eat_no word _ _ _ _ _ _ h hw (fun _ => hx)).mono ?_
      rintro e w1 ⟨rfl, n, rfl⟩
      exact ⟨false, rfl, (Kept.refl _ w).drewN n, a, h.drewN n, (fun hh => by cases hh), fun _ => ⟨rfl, fun _ => rfl⟩⟩
  · refine (eat_no word _ _ _ _ _ _ h hw (fun hh => absurd hh hf)).mono ?_
    rintro e w1 ⟨rfl, n, rfl⟩
    exact ⟨false, rfl, (Kept.refl _ w).drewN n, a, h.drewN n, (fun hh => by cases hh), fun _ => ⟨rfl, fun hh => absurd hh hf⟩⟩

/-- a declaration in the making, in a box of its own -/
structure DBox (w0 wr : World) (b db : Nat) (s : B) (v : Value) (nm vl : B) (st : Bool) (f : Flt) (p : Nat) : Prop where
  rd : WkAt wr b s p f v
  box : wr.heap[db]? = some (.cells #[.string (str nm), .string (str vl), .bool st] 62 (0, 0))
  kept : Kept (· = b) w0 wr
  al : f.err = 0 → f = good
  new : w0.heap.size ≤ db
  hb : b < db
section
variable {w0 wr wx : World} {b db : Nat} {s : B} {v : Value} {nm vl : B} {st : Bool} {f f' : Flt} {p p' : Nat}
theorem DBox.step (h : DBox w0 wr b db s v nm vl st f p) (hk : Kept (· = b) wr wx) (hr : WkAt wx b s p' f' v) (ha : f'.err = 0 → f' = good) : DBox w0 wx b db s v nm vl st f' p' :=
  ⟨hr, hk.heap (by have := h.hb; omega) h.box, h.kept.trans hk, ha, h.new, h.hb⟩
theorem DBox.quiet (h : DBox w0 wr b db s v nm vl st f p) (hq : Qt wr wx) : DBox w0 wx b db s v nm vl st f p := h.step (hq.kept _) (h.rd.quiet hq) h.al
theorem DBox.put (h : DBox w0 wr b db s v nm vl st f p) (vl' : B) : DBox w0 (wr.setCell ⟨db, 1, none⟩ (.string (str vl'))) b db s v nm vl' st f p := by
  have hb := h.hb
  refine ⟨h.rd.kept (S := (· = db)) ((Kept.refl (· = db) wr).setCell (p := ⟨db, 1, none⟩) (.inl rfl) _) (by omega), ?_, h.kept.setCell (p := ⟨db, 1, none⟩) (.inr h.new) _, h.al, h.new, h.hb⟩
  have := setIn h.box 1 (.string (str vl'))
  simpa using this
theorem DBox.strong (h : DBox w0 wr b db s v nm vl st f p) (st' : Bool) : DBox w0 (wr.setCell ⟨db, 2, none⟩ (.bool st')) b db s v nm vl st' f p := by
  have hb := h.hb
  refine ⟨h.rd.kept (S := (· = db)) ((Kept.refl (· = db) wr).setCell (p := ⟨db, 2, none⟩) (.inl rfl) _) (by omega), ?_, h.kept.setCell (p := ⟨db, 2, none⟩) (.inr h.new) _, h.al, h.new, h.hb⟩
  have := setIn h.box 2 (.bool st')
  simpa using this
theorem DBox.set (h : DBox w0 wr b db s v nm vl st f p) {x : Int} (hx : x = (p' : Int)) (hl : p' ≤ s.length) : DBox w0 (wr.setCell ⟨b, 1, none⟩ (.int .i64 x)) b db s v nm vl st f p' :=
  h.step ((Kept.refl (· = b) wr).setCell (p := ⟨b, 1, none⟩) (.inl rfl) _) (h.rd.set hx hl) h.al
end

theorem joinW_snoc : ∀ (ws : List B) (w : B), joinW (ws ++ [w]) = if ws = [] then w else joinW ws ++ ([32] ++ w)
  | [], w => rfl
  | [x], w => by simp [joinW]
  | x :: y :: ws, w => by
    have ih := joinW_snoc (y :: ws) w
    rw [if_neg (by simp)] at ih ⊢
    show x ++ [32] ++ joinW ((y :: ws) ++ [w]) = (x ++ [32] ++ joinW (y :: ws)) ++ ([32] ++ w)
    rw [ih]; simp
/-- a value's words, from here on -/
theorem valL_end {n : Nat} {ws : List B} {l : B} {a : Nat} (h : l.takeWhile isWord = []) : sValL (n + 1) ws l a = if ws = [] then .bad ⟨2, a⟩ else .ok (joinW ws, l, a) := by
  simp only [sValL, h, if_true]
theorem valL_long {n : Nat} {ws : List B} {l : B} {a : Nat} (h : l.takeWhile isWord ≠ []) (h60 : 60 < (joinW (ws ++ [l.takeWhile isWord])).length) : sValL (n + 1) ws l a = .bad ⟨4, a⟩ := by
  simp only [sValL, h, if_false, if_pos h60]
theorem valL_more {n : Nat} {ws : List B} {l : B} {a : Nat} (h : l.takeWhile isWord ≠ []) (h60 : ¬ 60 < (joinW (ws ++ [l.takeWhile isWord])).length) :
    sValL (n + 1) ws l a = (sGap (l.drop (l.takeWhile isWord).length) (a + (l.takeWhile isWord).length)).then fun x => sValL n (ws ++ [l.takeWhile isWord]) x.1 x.2 := by
  simp only [sValL, h, if_false, if_neg h60]
theorem declsL_end {n : Nat} {ds : List PDecl} {l : B} {a : Nat} (h : (l.isEmpty || [125].isPrefixOf l) = true) : sDeclsL (n + 1) ds l a = .ok (ds, l, a) := by
  simp only [sDeclsL, h, if_true]
theorem declsL_many {n : Nat} {ds : List PDecl} {l : B} {a : Nat} (h : (l.isEmpty || [125].isPrefixOf l) = false) (h20 : ds.length = 20) : sDeclsL (n + 1) ds l a = .bad ⟨5, a⟩ := by
  simp only [sDeclsL, h, h20, if_true]; rfl
theorem declsL_more {n : Nat} {ds : List PDecl} {l : B} {a : Nat} (h : (l.isEmpty || [125].isPrefixOf l) = false) (h20 : ds.length ≠ 20) :
    sDeclsL (n + 1) ds l a = (sDecl l a).then fun x => if [59].isPrefixOf x.2.1 then (sGap (x.2.1.drop 1) (x.2.2 + 1)).then fun y => sDeclsL n (ds ++ [x.1]) y.1 y.2 else .ok (ds ++ [x.1], x.2.1, x.2.2) := by
  simp only [sDeclsL, h, h20, if_false]; rfl
end Go.Proofs.Ytplbdlgmjehckab
