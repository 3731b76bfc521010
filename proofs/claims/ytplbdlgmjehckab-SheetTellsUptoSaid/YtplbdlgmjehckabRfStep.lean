/-
  The document's answer: what a step of its walk does, alive or not, in one contract.
-/
import Derived.Test.YtplbdlgmjehckabRfNm
namespace Go.Proofs.Ytplbdlgmjehckab
open Go.RowKit
set_option linter.unusedVariables false
set_option linter.unusedSimpArgs false

/-- a step of the parser that answers R, asked of a walk whose fault is f: what its fault is then, and (alive) the answer -/
def Step {α : Type} (f : Flt) (R : Ans α) (f' : Flt) (x : α) : Prop :=
  (f.err ≠ 0 → f' = f) ∧ (f.err = 0 → (f'.err = 0 ∧ R = .ok x) ∨ (f'.err ≠ 0 ∧ R = .bad f'))
theorem Step.dead {α : Type} {f : Flt} {R : Ans α} {x : α} (h : f.err ≠ 0) : Step f R f x := ⟨fun _ => rfl, fun hh => absurd hh h⟩
theorem Step.ok {α : Type} {R : Ans α} {x : α} (h : R = .ok x) : Step good R good x := ⟨fun hh => absurd rfl hh, fun _ => .inl ⟨rfl, h⟩⟩
theorem Step.bad {α : Type} {R : Ans α} {f' : Flt} {x : α} (h : R = .bad f') (hf : f'.err ≠ 0) : Step good R f' x := ⟨fun hh => absurd rfl hh, fun _ => .inr ⟨hf, h⟩⟩
/-- how far an answer has come: dead, it is the fault; alive, it is X -/
def St {α : Type} (A : Ans α) (f : Flt) (X : Ans α) : Prop := (f.err ≠ 0 → A = .bad f) ∧ (f.err = 0 → A = X)
theorem St.step {α β : Type} {A : Ans α} {f f' : Flt} {R : Ans β} {k : β → Ans α} {x : β} (h : St A f (R.then k)) (hs : Step f R f' x) : St A f' (k x) := by
  refine ⟨fun hf' => ?_, fun hf' => ?_⟩
  · by_cases hf : f.err = 0
    · rcases hs.2 hf with ⟨h1, _⟩ | ⟨_, h2⟩
      · exact absurd h1 hf'
      · rw [h.2 hf, h2]; rfl
    · rw [hs.1 hf]; exact h.1 hf
  · by_cases hf : f.err = 0
    · rcases hs.2 hf with ⟨_, h2⟩ | ⟨h1, _⟩
      · rw [h.2 hf, h2]; rfl
      · exact absurd hf' h1
    · rw [hs.1 hf] at hf'; exact absurd hf' hf

theorem need_gen (word : B) (w : World) (b : Nat) (s : B) (a : Nat) (f : Flt) (v : Value) (h : WkAt w b s a f v) (hg : f.err = 0 → f = good) (hw : word.length ≤ 100) (hne : word ≠ []) :
    Calls Try.prog 40 #[.pointer (some ⟨b, 0, none⟩), .string (str word)] w fun e w' => e = .returned (.tuple #[]) ∧ Kept (· = b) w w' ∧
      ∃ f' a', WkAt w' b s a' f' v ∧ (f'.err = 0 → f' = good) ∧ Hid (Step f (pMust word (s.drop a) a) f' (s.drop a', a')) := by
  by_cases hf : f.err = 0
  · cases hx : word.isPrefixOf (s.drop a) with
    | true =>
      refine (need_yes word _ _ _ _ _ _ h hf hw hne hx).mono ?_
      rintro e w1 ⟨rfl, hk, h1⟩
      refine ⟨rfl, hk, f, _, h1, hg, Lib.hid ⟨fun _ => rfl, fun _ => .inl ⟨hf, ?_⟩⟩⟩
      unfold pMust; rw [hx, if_pos rfl, List.drop_drop]
    | false =>
      refine (need_no word _ _ _ _ _ _ h hf hw hx).mono ?_
      rintro e w1 ⟨rfl, hk, h1⟩
      refine ⟨rfl, hk, ⟨2, a⟩, _, h1, fun hh => absurd hh (by simp), Lib.hid ⟨fun hh => absurd hf hh, fun _ => .inr ⟨by simp, ?_⟩⟩⟩
      unfold pMust; rw [hx, if_neg (by simp)]
  · refine (need_dead word _ _ _ _ _ _ h hf hw).mono ?_
    rintro e w1 ⟨rfl, n, rfl⟩
    exact ⟨rfl, (Kept.refl _ w).drewN n, f, a, h.drewN n, hg, Lib.hid ⟨fun _ => rfl, fun hh => absurd hh hf⟩⟩

theorem find_some (word : B) (k : Nat) (w : World) (b : Nat) (s : B) (a : Nat) (f : Flt) (v : Value) (h : WkAt w b s a f v) (hw : word.length ≤ 100) (hne : word ≠ []) (hx : absFind s word a = some k) :
    Calls Try.prog 51 #[.pointer (some ⟨b, 0, none⟩), .string (str word)] w fun e w' => e = .returned (.int .i64 (k : Int)) ∧ w' = w := find_any word (some k) w b s a f v h hw hne hx
end Go.Proofs.Ytplbdlgmjehckab
