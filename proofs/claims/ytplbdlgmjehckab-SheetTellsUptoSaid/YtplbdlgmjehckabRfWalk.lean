/-
  The document's answer: its walk through a text: ok, stop, on, eat, need, find, Low, More.
-/
import Derived.Test.YtplbdlgmjehckabPgSpec
import Derived.Test.YtplbdlgmjehckabMem
import Derived.Test.YtplbdlgmjehckabStr
import Derived.Deep.RegionHeld2
import Derived.Deep.RegionHeld3
namespace Go.Proofs.Ytplbdlgmjehckab
open Go.RowKit
set_option linter.unusedVariables false
set_option linter.unusedSimpArgs false

/-- the walk's block b: the text, where it stands, what is wrong, the elements -/
def WkAt (w : World) (b : Nat) (s : B) (at_ : Nat) (f : Flt) (v : Value) : Prop :=
  w.heap[b]? = some (.cells #[.string (str s), .int .i64 (at_ : Int), .int .i64 (f.err : Int), .int .i64 (f.pos : Int), v] 55 (0, 0)) ∧ at_ ≤ s.length ∧ s.length ≤ 6000

def good : Flt := ⟨0, 0⟩

section
variable {w w' : World} {b : Nat} {s : B} {a : Nat} {f : Flt} {v : Value}
theorem WkAt.kept {S : Nat → Prop} (h : WkAt w b s a f v) (hk : Kept S w w') (hs : ¬ S b) : WkAt w' b s a f v := ⟨hk.heap hs h.1, h.2⟩
theorem WkAt.quiet (h : WkAt w b s a f v) (hk : Qt w w') : WkAt w' b s a f v := h.kept (S := fun _ => False) (hk.kept _) id
theorem WkAt.drewN (h : WkAt w b s a f v) (n : Nat) : WkAt (w.drewN n) b s a f v := h
theorem WkAt.alloc (h : WkAt w b s a f v) (o : Obj) : WkAt (w.alloc o) b s a f v := ⟨oldIn h.1 o, h.2⟩
theorem WkAt.set (h : WkAt w b s a f v) {x : Int} {a' : Nat} (hx : x = (a' : Int)) (hl : a' ≤ s.length) : WkAt (w.setCell ⟨b, 1, none⟩ (.int .i64 x)) b s a' f v := by
  refine ⟨?_, hl, h.2.2⟩
  subst hx
  have := setIn h.1 1 (.int .i64 (a' : Int))
  simpa using this
theorem WkAt.bad (h : WkAt w b s a f v) (g : Flt) : WkAt ((w.setCell ⟨b, 2, none⟩ (.int .i64 (g.err : Int))).setCell ⟨b, 3, none⟩ (.int .i64 (g.pos : Int))) b s a g v := by
  refine ⟨?_, h.2⟩
  have := setIn (setIn h.1 2 (.int .i64 (g.err : Int))) 3 (.int .i64 (g.pos : Int))
  simpa using this
theorem WkAt.c0 (h : WkAt w b s a f v) : w.cell? ⟨b, 0, none⟩ = some (.string (str s)) := cellIn h.1 0 rfl
theorem WkAt.c1 (h : WkAt w b s a f v) : w.cell? ⟨b, 1, none⟩ = some (.int .i64 (a : Int)) := cellIn h.1 1 rfl
theorem WkAt.c2 (h : WkAt w b s a f v) : w.cell? ⟨b, 2, none⟩ = some (.int .i64 (f.err : Int)) := cellIn h.1 2 rfl
theorem WkAt.c3 (h : WkAt w b s a f v) : w.cell? ⟨b, 3, none⟩ = some (.int .i64 (f.pos : Int)) := cellIn h.1 3 rfl
theorem WkAt.c4 (h : WkAt w b s a f v) : w.cell? ⟨b, 4, none⟩ = some v := cellIn h.1 4 rfl
theorem WkAt.free (h : WkAt w b s a f v) (k : Nat) : w.frozen? ⟨b, k, none⟩ = false := freeIn h.1 k
theorem WkAt.lt (h : WkAt w b s a f v) : b < w.heap.size := ltIn h.1
end

set_option maxHeartbeats 400000 in
theorem ok_any (w : World) (b : Nat) (s : B) (a : Nat) (f : Flt) (v : Value) (h : WkAt w b s a f v) :
    Calls Try.prog 23 #[.pointer (some ⟨b, 0, none⟩)] w fun e w' => e = .returned (.bool ((f.err : Int) == 0)) ∧ w' = w := by
  have h2 := h.c2
  clear h
  go_enter Try.func23, Try.ntmps23
  go_wp2
  go_ret
  exact ⟨rfl, rfl⟩

theorem ok_is (x : Bool) (w : World) (b : Nat) (s : B) (a : Nat) (f : Flt) (v : Value) (h : WkAt w b s a f v) (hx : ((f.err : Int) == 0) = x) :
    Calls Try.prog 23 #[.pointer (some ⟨b, 0, none⟩)] w fun e w' => e = .returned (.bool x) ∧ w' = w := by
  have := ok_any w b s a f v h; rw [hx] at this; exact this

set_option maxHeartbeats 400000 in
theorem stop_good (err pos : Nat) (w : World) (b : Nat) (s : B) (a : Nat) (f : Flt) (v : Value) (h : WkAt w b s a f v) (hf : f.err = 0) :
    Calls Try.prog 24 #[.pointer (some ⟨b, 0, none⟩), .int .i64 (err : Int), .int .i64 (pos : Int)] w fun e w' => e = .returned (.tuple #[]) ∧ Kept (· = b) w w' ∧ WkAt w' b s a ⟨err, pos⟩ v := by
  have H := Lib.hid h
  have c2 := h.c2
  have c3 := h.c3
  have f2 := h.free 2
  have f3 := h.free 3
  have hk : ((f.err : Int) == 0) = true := by simp [hf]
  clear h
  go_enter Try.func24, Try.ntmps24
  go_wp2_with (go_at_call 23; refine (ok_is true _ _ _ _ _ _ H.out hk).mono ?_; rintro e w2 ⟨rfl, rfl⟩)
  go_end0
  exact ⟨rfl, ((Kept.refl (· = b) _).setCell (p := ⟨b, 2, none⟩) (.inl rfl) _).setCell (p := ⟨b, 3, none⟩) (.inl rfl) _, H.out.bad ⟨err, pos⟩⟩

set_option maxHeartbeats 400000 in
theorem stop_dead (err pos : Int) (w : World) (b : Nat) (s : B) (a : Nat) (f : Flt) (v : Value) (h : WkAt w b s a f v) (hf : f.err ≠ 0) :
    Calls Try.prog 24 #[.pointer (some ⟨b, 0, none⟩), .int .i64 err, .int .i64 pos] w fun e w' => e = .returned (.tuple #[]) ∧ w' = w := by
  have H := Lib.hid h
  have hk : ((f.err : Int) == 0) = false := by simp; omega
  clear h
  go_enter Try.func24, Try.ntmps24
  go_wp2_with (go_at_call 23; refine (ok_is false _ _ _ _ _ _ H.out hk).mono ?_; rintro e w2 ⟨rfl, rfl⟩)
  go_end0
  exact ⟨rfl, rfl⟩

theorem prefix_eq (word : B) (s : B) (a : Nat) (h : a + word.length ≤ s.length) : ((s.drop a).take word.length == word) = word.isPrefixOf (s.drop a) := by
  rw [Bool.eq_iff_iff, beq_iff_eq, List.isPrefixOf_iff_prefix, List.prefix_iff_eq_take]
  exact ⟨Eq.symm, Eq.symm⟩

set_option maxHeartbeats 800000 in
theorem on_good (word : B) (x : Bool) (w : World) (b : Nat) (s : B) (a : Nat) (f : Flt) (v : Value) (h : WkAt w b s a f v) (hf : f.err = 0) (hw : word.length ≤ 100) (hx : word.isPrefixOf (s.drop a) = x) :
    Calls Try.prog 37 #[.pointer (some ⟨b, 0, none⟩), .string (str word)] w fun e w' => e = .returned (.bool x) ∧ ∃ n, w' = w.drewN n := by
  have H := Lib.hid h
  have c0 := h.c0
  have c1 := h.c1
  have hl := h.2.1
  have hm := h.2.2
  have hk : ((f.err : Int) == 0) = true := by simp [hf]
  clear h
  by_cases hle : a + word.length ≤ s.length
  · have d1 : decide ((a : Int) + (word.length : Int) ≤ (s.length : Int)) = true := by simp; omega
    have he : Hid (((s.drop a).take word.length == word) = x) := Lib.hid (by rw [prefix_eq word s a hle]; exact hx)
    clear hx
    go_enter Try.func37, Try.ntmps37
    go_wp2
    go_quiet ((go_at_call 23; exact Calls.quiet_of_same (ok_is true _ _ _ _ _ _ H.out hk)))
    go_wp2
    go_ret
    exact ⟨retb he.out, _, rfl⟩
  · have d1 : decide ((a : Int) + (word.length : Int) ≤ (s.length : Int)) = false := by simp; omega
    obtain rfl : x = false := by
      rw [← hx]
      cases hp : word.isPrefixOf (s.drop a) with
      | false => rfl
      | true =>
        have := (List.isPrefixOf_iff_prefix.1 hp).length_le
        rw [List.length_drop] at this
        omega
    clear hx
    go_enter Try.func37, Try.ntmps37
    go_wp2
    go_quiet ((go_at_call 23; exact Calls.quiet_of_same (ok_is true _ _ _ _ _ _ H.out hk)))
    go_wp2
    go_ret
    exact ⟨rfl, _, rfl⟩

set_option maxHeartbeats 800000 in
theorem on_dead (word : B) (w : World) (b : Nat) (s : B) (a : Nat) (f : Flt) (v : Value) (h : WkAt w b s a f v) (hf : f.err ≠ 0) :
    Calls Try.prog 37 #[.pointer (some ⟨b, 0, none⟩), .string (str word)] w fun e w' => e = .returned (.bool false) ∧ ∃ n, w' = w.drewN n := by
  have H := Lib.hid h
  have hk : ((f.err : Int) == 0) = false := by simp; omega
  clear h
  go_enter Try.func37, Try.ntmps37
  go_wp2
  go_quiet ((go_at_call 23; exact Calls.quiet_of_same (ok_is false _ _ _ _ _ _ H.out hk)))
  go_wp2
  go_ret
  exact ⟨rfl, _, rfl⟩

set_option maxHeartbeats 400000 in
theorem eat_yes (word : B) (w : World) (b : Nat) (s : B) (a : Nat) (f : Flt) (v : Value) (h : WkAt w b s a f v) (hf : f.err = 0) (hw : word.length ≤ 100) (hne : word ≠ []) (hx : word.isPrefixOf (s.drop a) = true) :
    Calls Try.prog 38 #[.pointer (some ⟨b, 0, none⟩), .string (str word)] w fun e w' => e = .returned (.bool true) ∧ Kept (· = b) w w' ∧ WkAt w' b s (a + word.length) f v := by
  have H := Lib.hid h
  have hl : a + word.length ≤ s.length := by
    have := (List.isPrefixOf_iff_prefix.1 hx).length_le
    have := List.length_pos_iff.2 hne
    simp only [List.length_drop] at *
    omega
  have hm := h.2.2
  clear h
  go_enter Try.func38, Try.ntmps38
  go_wp2_with fail
  refine (on_good word true _ _ _ _ _ _ H.out hf hw hx).mono ?_
  rintro e w1 ⟨rfl, n, rfl⟩
  have c1 := H.out.c1
  have f1 := H.out.free 1
  go_wp2_with fail
  go_ret
  exact ⟨rfl, ((Kept.refl (· = b) w).drewN n).setCell (p := ⟨b, 1, none⟩) (.inl rfl) _, (H.out.drewN n).set (by omega) hl⟩

set_option maxHeartbeats 400000 in
theorem eat_no (word : B) (w : World) (b : Nat) (s : B) (a : Nat) (f : Flt) (v : Value) (h : WkAt w b s a f v) (hw : word.length ≤ 100) (hx : f.err = 0 → word.isPrefixOf (s.drop a) = false) :
    Calls Try.prog 38 #[.pointer (some ⟨b, 0, none⟩), .string (str word)] w fun e w' => e = .returned (.bool false) ∧ ∃ n, w' = w.drewN n := by
  have hon : Calls Try.prog 37 #[.pointer (some ⟨b, 0, none⟩), .string (str word)] w fun e w' => e = .returned (.bool false) ∧ ∃ n, w' = w.drewN n := by
    by_cases hf : f.err = 0
    · exact on_good word false _ _ _ _ _ _ h hf hw (hx hf)
    · exact on_dead word _ _ _ _ _ _ h hf
  have HON := Lib.hid hon
  clear hon h hx
  go_enter Try.func38, Try.ntmps38
  go_wp2_with fail
  refine HON.out.mono ?_
  rintro e w1 ⟨rfl, n, rfl⟩
  go_wp2_with fail
  go_ret
  exact ⟨rfl, n, rfl⟩

set_option maxHeartbeats 400000 in
theorem need_yes (word : B) (w : World) (b : Nat) (s : B) (a : Nat) (f : Flt) (v : Value) (h : WkAt w b s a f v) (hf : f.err = 0) (hw : word.length ≤ 100) (hne : word ≠ []) (hx : word.isPrefixOf (s.drop a) = true) :
    Calls Try.prog 40 #[.pointer (some ⟨b, 0, none⟩), .string (str word)] w fun e w' => e = .returned (.tuple #[]) ∧ Kept (· = b) w w' ∧ WkAt w' b s (a + word.length) f v := by
  have H := Lib.hid h
  clear h
  go_enter Try.func40, Try.ntmps40
  go_wp2_with fail
  refine (eat_yes word _ _ _ _ _ _ H.out hf hw hne hx).mono ?_
  rintro e w1 ⟨rfl, hk, h1⟩
  have HK := Lib.hid hk
  have H1 := Lib.hid h1
  clear hk h1
  go_wp2_with fail
  go_end0
  exact ⟨rfl, HK.out, H1.out⟩

set_option maxHeartbeats 400000 in
theorem need_no (word : B) (w : World) (b : Nat) (s : B) (a : Nat) (f : Flt) (v : Value) (h : WkAt w b s a f v) (hf : f.err = 0) (hw : word.length ≤ 100) (hx : word.isPrefixOf (s.drop a) = false) :
    Calls Try.prog 40 #[.pointer (some ⟨b, 0, none⟩), .string (str word)] w fun e w' => e = .returned (.tuple #[]) ∧ Kept (· = b) w w' ∧ WkAt w' b s a ⟨2, a⟩ v := by
  have H := Lib.hid h
  clear h
  go_enter Try.func40, Try.ntmps40
  go_wp2_with fail
  refine (eat_no word _ _ _ _ _ _ H.out hw (fun _ => hx)).mono ?_
  rintro e w1 ⟨rfl, n, rfl⟩
  have c1 := H.out.c1
  go_wp2_with (go_at_call 24; refine (stop_good 2 a _ _ _ _ _ _ (H.out.drewN n) hf).mono ?_; rintro e w2 ⟨rfl, hk, h2⟩)
  go_end0
  exact ⟨rfl, ((Kept.refl (· = b) w).drewN n).trans hk, h2⟩

set_option maxHeartbeats 400000 in
theorem need_dead (word : B) (w : World) (b : Nat) (s : B) (a : Nat) (f : Flt) (v : Value) (h : WkAt w b s a f v) (hf : f.err ≠ 0) (hw : word.length ≤ 100) :
    Calls Try.prog 40 #[.pointer (some ⟨b, 0, none⟩), .string (str word)] w fun e w' => e = .returned (.tuple #[]) ∧ ∃ n, w' = w.drewN n := by
  have H := Lib.hid h
  clear h
  go_enter Try.func40, Try.ntmps40
  go_wp2_with fail
  refine (eat_no word _ _ _ _ _ _ H.out hw (fun h => absurd h hf)).mono ?_
  rintro e w1 ⟨rfl, n, rfl⟩
  have c1 := H.out.c1
  go_wp2_with (go_at_call 24; refine (stop_dead 2 a _ _ _ _ _ _ (H.out.drewN n) hf).mono ?_; rintro e w2 ⟨rfl, rfl⟩)
  go_end0
  exact ⟨rfl, n, rfl⟩

end Go.Proofs.Ytplbdlgmjehckab
