/-
  The document's answer: what a step of its walk does, alive or not, in one contract.
-/
import Derived.Test.YtplbdlgmjehckaaRfStep
import Derived.Test.YtplbdlgmjehckaaRfOwn
import Derived.Test.YtplbdlgmjehckaaPgErr
namespace Go.Proofs.Ytplbdlgmjehckaa
open Go.RowKit
set_option linter.unusedVariables false
set_option linter.unusedSimpArgs false

theorem WkAt.alive {w : World} {b : Nat} {s : B} {a : Nat} {f : Flt} {v : Value} (h : WkAt w b s a f v) (hf : f = good) : WkAt w b s a good v := hf ▸ h
theorem name_gen (w : World) (b : Nat) (s : B) (a : Nat) (f : Flt) (v : Value) (h : WkAt w b s a f v) (hg : f.err = 0 → f = good) :
    Calls Try.prog 38 #[.pointer (some ⟨b, 0, none⟩), .int .i64 7] w fun e w' => ∃ nm : B, e = .returned (.string (str nm)) ∧ Kept (· = b) w w' ∧
      ∃ f' a', WkAt w' b s a' f' v ∧ (f'.err = 0 → f' = good ∧ nm.length ≤ 20) ∧ Hid (Step f (pName (s.drop a) a) f' (nm, s.drop a', a')) := by
  refine (rname_any 7 (by omega) w b s a f v h).mono ?_
  rintro e w1 ⟨rfl, hk, h1⟩
  refine ⟨_, rfl, hk, ?_⟩
  have hn := nameLen_le (s.drop a)
  have hlen : ((s.drop a).take (nameLen (s.drop a))).length = nameLen (s.drop a) := by rw [List.length_take]; omega
  by_cases hf : f.err = 0
  · rw [if_neg (by simp [hf])] at h1
    by_cases h0 : nameLen (s.drop a) = 0
    · rw [if_pos h0] at h1
      refine ⟨_, _, h1, fun hh => absurd hh (by simp), Lib.hid ⟨fun hh => absurd hf hh, fun _ => .inr ⟨by simp, ?_⟩⟩⟩
      unfold pName; rw [if_pos h0]
    · rw [if_neg h0] at h1
      by_cases h20 : 20 < nameLen (s.drop a)
      · rw [if_pos h20] at h1
        refine ⟨_, _, h1, fun hh => absurd hh (by simp), Lib.hid ⟨fun hh => absurd hf hh, fun _ => .inr ⟨by simp, ?_⟩⟩⟩
        unfold pName; rw [if_neg h0, if_pos h20]
      · rw [if_neg h20] at h1
        refine ⟨_, _, h1, fun _ => ⟨hg hf, by omega⟩, Lib.hid ⟨fun hh => absurd hf hh, fun _ => .inl ⟨hf, ?_⟩⟩⟩
        unfold pName; rw [if_neg h0, if_neg h20, List.drop_drop]
  · rw [if_pos hf] at h1
    exact ⟨f, a, h1, fun hh => absurd hh hf, Lib.hid ⟨fun _ => rfl, fun hh => absurd hh hf⟩⟩

end Go.Proofs.Ytplbdlgmjehckaa
