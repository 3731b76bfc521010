/-
  The reader of sheets: words of the walks of its parts.
-/
import Derived.Test.YtplbdlgmjehckabShName
import Derived.Test.YtplbdlgmjehckabShCells
import Derived.Deep.AppendLies
import Derived.Deep.LoopGhost
namespace Go.Proofs.Ytplbdlgmjehckab
open Go.RowKit
set_option linter.unusedVariables false
set_option linter.unusedSimpArgs false

theorem seat_is (r : Bool) (word : B) (w : World) (b : Nat) (s : B) (at_ : Nat) (h : SdAt w b s at_) (hp : word.isPrefixOf (s.drop at_) = r) :
    Calls Try.prog 32 #[.pointer (some ⟨b, 0, none⟩), .string (str word)] w fun e w' => e = .returned (.bool r) ∧ Kept (· = b) w w' ∧ SdAt w' b s (at_ + if r then word.length else 0) := by
  cases r with
  | false => exact (seat_no word w b s at_ h hp).mono fun e w' ⟨h1, h2⟩ => ⟨h1, (show Qt w w' from h2).kept _, h.quiet h2⟩
  | true => exact seat_yes word w b s at_ h hp

/-- what stands in the way of a reading further on: the fault of a part is the fault of the whole -/
theorem SSum.bad {α : Type} {X : Ans (α × B × Nat)} {w : World} {b : Nat} {s : B} {R : World → α → Ending → Prop} {w' : World} {f : Flt} (hk : Kept (· = b) w w') (hX : X = .bad f) : SSum X w b s R (sthrown f) w' :=
  .inl ⟨f, rfl, hk, Lib.hid hX⟩

theorem keep3 {w w2 : World} {b nb : Nat} (h : w.heap.size ≤ nb) (hk : Kept (· = b) w w2) (x y z : Value) :
    Kept (· = b) w (((w2.setCell ⟨nb, 0, none⟩ x).setCell ⟨nb, 1, none⟩ y).setCell ⟨nb, 2, none⟩ z) :=
  ((hk.setCell (p := ⟨nb, 0, none⟩) (.inr h) _).setCell (p := ⟨nb, 1, none⟩) (.inr h) _).setCell (p := ⟨nb, 2, none⟩) (.inr h) _

theorem rowsFlat_push {α : Type} (f : α → List Value) (ts : List α) (t : α) : ((ts ++ [t]).map f).flatten = (ts.map f).flatten ++ f t := by simp

theorem own_grow {w0 w w' : World} {b base e size n : Nat} {v : Value} {xs : List Value} {o : Obj} (hk : Kept (· = b) w0 w) (hb : w0.heap.size = base) (hown : w.ownsRow base e size v n xs) (hg : (w.alloc o).grownBy w' v.ownBlock) : Kept (· = b) w0 w' :=
  (hk.alloc o).grown hg (fun k hk => .inr (by have := (hown.lt k hk).1; omega))

theorem own_rd {w w' : World} {b base e size n at_ : Nat} {s : B} {v : Value} {xs : List Value} {o : Obj} (h : SdAt w b s at_) (hb : b < base) (hown : w.ownsRow base e size v n xs) (hg : (w.alloc o).grownBy w' v.ownBlock) : SdAt w' b s at_ :=
  h.kept (((Kept.refl (fun k => v.ownBlock = some k) w).alloc o).grown hg (fun k hk => .inl hk)) (fun hk => by have := (hown.lt b hk).1; omega)

end Go.Proofs.Ytplbdlgmjehckab
