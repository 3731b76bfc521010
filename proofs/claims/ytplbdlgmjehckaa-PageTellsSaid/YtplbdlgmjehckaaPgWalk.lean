/-
  The reader of pages, function by function: what a call does, by PgSpec's functions.
-/
import Derived.Test.YtplbdlgmjehckaaMem
import Derived.Test.YtplbdlgmjehckaaPgSpec
import Derived.Test.YtplbdlgmjehckaaStr
import Derived.Deep.DeepCutAuto
import Derived.Deep.CutBlock
import Derived.Deep.Light
namespace Go.Proofs.Ytplbdlgmjehckaa
open Go.RowKit
set_option linter.unusedVariables false
set_option linter.unusedSimpArgs false

/-- the reader, in block b -/
def RdAt (w : World) (b : Nat) (s : B) (at_ : Nat) (v : Value) : Prop :=
  w.heap[b]? = some (.cells #[.string (str s), .int .i64 (at_ : Int), v] 49 (0, 0)) ∧ at_ ≤ s.length ∧ s.length ≤ 6000

def oops (f : Flt) : Value := .iface 46 (.agg #[.int .i64 (f.err : Int), .int .i64 (f.pos : Int)])
@[reducible] def thrown (f : Flt) : Ending := .panicked [{ v := oops f, recovered := false }]

theorem RdAt.kept {w w' : World} {b : Nat} {s : B} {a : Nat} {v : Value} {S : Nat → Prop} (h : RdAt w b s a v) (hk : Kept S w w') (hs : ¬ S b) : RdAt w' b s a v :=
  ⟨hk.heap hs h.1, h.2⟩
theorem RdAt.quiet {w w' : World} {b : Nat} {s : B} {a : Nat} {v : Value} (h : RdAt w b s a v) (hk : Qt w w') : RdAt w' b s a v :=
  h.kept (S := fun _ => False) (hk.kept _) id

theorem RdAt.alloc {w : World} {b : Nat} {s : B} {a : Nat} {v : Value} (h : RdAt w b s a v) (o : Obj) : RdAt (w.alloc o) b s a v := ⟨oldIn h.1 o, h.2⟩
theorem RdAt.set {w : World} {b : Nat} {s : B} {a : Nat} {v : Value} (h : RdAt w b s a v) {x : Int} {a' : Nat} (hx : x = (a' : Int)) (hl : a' ≤ s.length) : RdAt (w.setCell ⟨b, 1, none⟩ (.int .i64 x)) b s a' v := by
  refine ⟨?_, hl, h.2.2⟩
  subst hx
  have := setIn h.1 1 (.int .i64 (a' : Int))
  simpa using this
theorem RdAt.other {w : World} {b : Nat} {s : B} {a : Nat} {v : Value} (h : RdAt w b s a v) {p : Addr} {x : Value} (hp : b ≠ p.block) : RdAt (w.setCell p x) b s a v := ⟨otherIn h.1 p x hp, h.2⟩
theorem RdAt.drewN {w : World} {b : Nat} {s : B} {a : Nat} {v : Value} (h : RdAt w b s a v) (n : Nat) : RdAt (w.drewN n) b s a v := h
theorem RdAt.c0 {w : World} {b : Nat} {s : B} {a : Nat} {v : Value} (h : RdAt w b s a v) : w.cell? ⟨b, 0, none⟩ = some (.string (str s)) := cellIn h.1 0 rfl
theorem RdAt.c1 {w : World} {b : Nat} {s : B} {a : Nat} {v : Value} (h : RdAt w b s a v) : w.cell? ⟨b, 1, none⟩ = some (.int .i64 (a : Int)) := cellIn h.1 1 rfl
theorem RdAt.c2 {w : World} {b : Nat} {s : B} {a : Nat} {v : Value} (h : RdAt w b s a v) : w.cell? ⟨b, 2, none⟩ = some v := cellIn h.1 2 rfl
theorem RdAt.free {w : World} {b : Nat} {s : B} {a : Nat} {v : Value} (h : RdAt w b s a v) (k : Nat) : w.frozen? ⟨b, k, none⟩ = false := freeIn h.1 k
theorem RdAt.lt {w : World} {b : Nat} {s : B} {a : Nat} {v : Value} (h : RdAt w b s a v) : b < w.heap.size := ltIn h.1

set_option maxHeartbeats 400000 in
theorem fail_any (err : Nat) (w : World) (b : Nat) (s : B) (at_ : Nat) (v : Value) (h : RdAt w b s at_ v) :
    Calls Try.prog 20 #[.pointer (some ⟨b, 0, none⟩), .int .i64 (err : Int)] w fun e w' => e = thrown ⟨err, at_⟩ ∧ Qt w w' := by
  have h1 := cellIn h.1 1 rfl
  clear h
  go_enter Try.func20, Try.ntmps20
  go_wp2
  exact ⟨rfl, rfl, 0, rfl⟩

set_option maxHeartbeats 400000 in
theorem is_any (word : B) (w : World) (b : Nat) (s : B) (at_ : Nat) (v : Value) (h : RdAt w b s at_ v) :
    Calls Try.prog 26 #[.pointer (some ⟨b, 0, none⟩), .string (str word)] w fun e w' => e = .returned (.bool (word.isPrefixOf (s.drop at_))) ∧ ∃ n, w' = w.drewN n := by
  have h0 := cellIn h.1 0 rfl
  have h1 := cellIn h.1 1 rfl
  have hl := h.2.1
  have hm := h.2.2
  clear h
  go_enter Try.func26, Try.ntmps26
  go_wp2
  go_quiet ((go_at_call 32; refine Calls.quiet_of_same (hasPrefix_any _ _ _)))
  go_wp2
  go_ret
  exact ⟨rfl, _, rfl⟩

set_option maxHeartbeats 400000 in
theorem must_bad (word : B) (w : World) (b : Nat) (s : B) (at_ : Nat) (v : Value) (h : RdAt w b s at_ v) (hp : word.isPrefixOf (s.drop at_) = false) :
    Calls Try.prog 34 #[.pointer (some ⟨b, 0, none⟩), .string (str word)] w fun e w' => e = thrown ⟨2, at_⟩ ∧ Qt w w' := by
  have H := Lib.hid h
  have HP := Lib.hid hp
  clear h hp
  go_enter Try.func34, Try.ntmps34
  go_wp2_with fail
  refine (is_any word _ _ _ _ _ H.out).mono ?_
  rintro e w1 ⟨rfl, hq0⟩
  have hq : Qt w w1 := hq0
  clear hq0
  rw [HP.out]
  have H1 := Lib.hid (RdAt.quiet H.out hq)
  go_wp2_with fail
  refine (fail_any 2 _ _ _ _ _ H1.out).mono ?_
  rintro e w2 ⟨rfl, hq2⟩
  have HQ := Lib.hid (hq.trans hq2)
  clear hq hq2
  go_wp2_with fail
  exact ⟨rfl, rfl, HQ.out⟩

set_option maxHeartbeats 400000 in
theorem must_ok (word : B) (w : World) (b : Nat) (s : B) (at_ : Nat) (v : Value) (h : RdAt w b s at_ v) (hp : word.isPrefixOf (s.drop at_) = true) :
    Calls Try.prog 34 #[.pointer (some ⟨b, 0, none⟩), .string (str word)] w fun e w' => e = .returned (.tuple #[]) ∧ Kept (· = b) w w' ∧ RdAt w' b s (at_ + word.length) v := by
  have H := Lib.hid h
  have HP := Lib.hid hp
  have hl : at_ + word.length ≤ s.length := by
    have := (List.isPrefixOf_iff_prefix.1 hp).length_le
    simp only [List.length_drop] at this
    have := h.2.1
    by_cases hw : word = []
    · subst hw; simpa using h.2.1
    · have : 0 < word.length := List.length_pos_iff.2 hw
      omega
  have hm := h.2.2
  clear h hp
  go_enter Try.func34, Try.ntmps34
  go_wp2_with fail
  refine (is_any word _ _ _ _ _ H.out).mono ?_
  rintro e w1 ⟨rfl, hq0⟩
  have hq : Qt w w1 := hq0
  clear hq0
  rw [HP.out]
  have h1 := RdAt.quiet H.out hq
  have hk := hq.kept (· = b)
  have H1 := Lib.hid h1
  have c1 := cellIn h1.1 1 rfl
  have f1 := freeIn h1.1 1
  clear h1 hq
  have HK := Lib.hid hk
  clear hk
  go_wp2_with fail
  go_end0
  refine ⟨rfl, HK.out.setCell (.inl rfl) _, ?_, hl, hm⟩
  have := setIn H1.out.1 1 (.int .i64 ((at_ + word.length : Nat) : Int))
  simpa using this

theorem drop_get (s : B) (a j : Nat) (h : j < (s.drop a).length) : (s.drop a)[j] = s[a + j]'(by simp only [List.length_drop] at h; omega) := by simp

def NameEnds (w : World) (b : Nat) (s : B) (at_ : Nat) (v : Value) (n : Nat) (e : Ending) (w' : World) : Prop :=
  if n = 0 then e = thrown ⟨2, at_⟩ ∧ Qt w w' else if 20 < n then e = thrown ⟨7, at_⟩ ∧ Qt w w' else
  e = .returned (.string (str ((s.drop at_).take n))) ∧ Kept (· = b) w w' ∧ RdAt w' b s (at_ + n) v

set_option maxHeartbeats 1600000 in
theorem name_walk (w : World) (b : Nat) (s : B) (at_ : Nat) (v : Value) (h : RdAt w b s at_ v) (n : Nat) (hn : at_ + n ≤ s.length)
    (hin : ∀ j, j < n → ∃ h : at_ + j < s.length, inName j (s[at_ + j]'h) = true) (hout : (h : at_ + n < s.length) → inName n (s[at_ + n]'h) = false) :
    Calls Try.prog 35 #[.pointer (some ⟨b, 0, none⟩)] w (NameEnds w b s at_ v n) := by
  have H := Lib.hid h
  have HIN := Lib.hid hin
  have HOUT := Lib.hid hout
  have hl := h.2.1
  have hm := h.2.2
  have c0 := cellIn h.1 0 rfl
  have c1 := cellIn h.1 1 rfl
  have f1 := freeIn h.1 1
  clear h hin hout
  go_enter Try.func35, Try.ntmps35
  go_upto_block 0 with fail
  go_cut [3] (fun k wx => k = .int .i64 ((at_ + n : Nat) : Int) ∧ wx = w)
  case first =>
    go_wp2_with fail
    go_loop [3] (fun k => ∃ j : Nat, j ≤ n ∧ k = .int .i64 ((at_ + j : Nat) : Int)) (fun k => s.length - (intOf k).toNat)
    case atStart => exact ⟨0, by omega, rfl⟩
    case round =>
      obtain ⟨j, hj, rfl⟩ := hrel
      by_cases hlt : j < n
      · obtain ⟨h3, h2⟩ := HIN.out j hlt
        have h4 := inName_yes h2
        clear h2
        rcases h4 with ⟨h5, h6⟩ | ⟨h5, h6, h7⟩ | ⟨h5, h6⟩
        · go_wp2
          go_round
          case rel => exact ⟨j + 1, by omega, by go_num⟩
          case measure => simp [intOf]; omega
        · have e1 : (((at_ : Int) + (j : Int)) == (at_ : Int)) = false := by simp; omega
          have e2 : (((s[at_ + j]'h3).toNat : Int) != 45) = true := by simp; omega
          go_wp2
          go_round
          case rel => exact ⟨j + 1, by omega, by go_num⟩
          case measure => simp [intOf]; omega
        · have e1 : (((at_ : Int) + (j : Int)) == (at_ : Int)) = false := by simp; omega
          have e2 : (((s[at_ + j]'h3).toNat : Int) != 45) = false := by simp; omega
          have e3 : ((s[at_ + j]'h3).toNat : Int) ≤ 45 := by omega
          have e4 : 45 ≤ ((s[at_ + j]'h3).toNat : Int) := by omega
          clear h6
          go_wp2
          go_round
          case rel => exact ⟨j + 1, by omega, by go_num⟩
          case measure => simp [intOf]; omega
      · obtain rfl : j = n := by omega
        by_cases h3 : at_ + j < s.length
        · have h4 := inName_no (HOUT.out h3)
          obtain ⟨h5, h6⟩ := h4
          by_cases hj0 : j = 0
          · have e1 : (((at_ : Int) + (j : Int)) == (at_ : Int)) = true := by simp; omega
            have hj1 : j ≤ 0 := by omega
            clear hj0
            rcases h5 with h5 | h5
            all_goals
              clear h6
              go_wp2
              go_meet
              case rel => exact ⟨rfl, rfl⟩
          · have h7 := h6.resolve_left hj0
            obtain ⟨h8, h9⟩ := h7
            have e1 : (((at_ : Int) + (j : Int)) == (at_ : Int)) = false := by simp; omega
            have e2 : (((s[at_ + j]'h3).toNat : Int) != 45) = true := by simpa using h9
            clear h6 h9
            rcases h5 with h5 | h5 <;> rcases h8 with h8 | h8 <;> (try (exfalso; omega))
            all_goals
              go_wp2
              go_meet
              case rel => exact ⟨rfl, rfl⟩
        · go_wp2
          go_meet
          case rel => exact ⟨rfl, rfl⟩
  case rest =>
    obtain ⟨rfl, rfl⟩ := hcut
    go_wp2
    go_quiet (fail)
    have hmin : min n (s.length - at_) = n := by omega
    have H1 : Hid (RdAt (wc.drewN nq) b s at_ v) := Lib.hid (RdAt.quiet H.out ⟨nq, rfl⟩)
    by_cases h0 : n = 0
    · have e0 : ((s.drop at_).take n).isEmpty = true := by rw [h0]; simp
      have H0 := Lib.hid h0
      clear h0
      go_wp2_with (go_at_call 20; refine (fail_any 2 _ _ _ _ _ H1.out).mono ?_; rintro e w2 ⟨rfl, hq2⟩)
      refine ⟨rfl, ?_⟩
      unfold NameEnds
      rw [if_pos H0.out]
      exact ⟨rfl, Qt.trans ⟨nq, rfl⟩ hq2⟩
    · have e0 : ((s.drop at_).take n).isEmpty = false := by
        cases hx : (s.drop at_).take n with
        | nil => have := congrArg List.length hx; simp at this; omega
        | cons _ _ => rfl
      by_cases h20 : 20 < n
      · go_wp2_with (go_at_call 20; refine (fail_any 7 _ _ _ _ _ H1.out).mono ?_; rintro e w2 ⟨rfl, hq2⟩)
        refine ⟨rfl, ?_⟩
        unfold NameEnds
        rw [if_neg h0, if_pos h20]
        exact ⟨rfl, Qt.trans ⟨nq, rfl⟩ hq2⟩
      · go_wp2
        go_ret
        unfold NameEnds
        rw [if_neg h0, if_neg h20]
        refine ⟨rets (by rw [Nat.add_sub_cancel_left]), ((Kept.refl (· = b) wc).drewN nq).setCell (p := ⟨b, 1, none⟩) (.inl rfl) _, ?_, hn, hm⟩
        have := setIn H1.out.1 1 (.int .i64 ((at_ + n : Nat) : Int))
        simpa using this

theorem name_any (w : World) (b : Nat) (s : B) (at_ : Nat) (v : Value) (h : RdAt w b s at_ v) :
    Calls Try.prog 35 #[.pointer (some ⟨b, 0, none⟩)] w (NameEnds w b s at_ v (nameLen (s.drop at_))) := by
  have hn := nameLen_le (s.drop at_)
  rw [List.length_drop] at hn
  have hl := h.2.1
  refine name_walk w b s at_ v h _ (by omega) (fun j hj => ?_) (fun hlt => ?_)
  · obtain ⟨h1, h2⟩ := nameLen_in _ _ hj
    refine ⟨by rw [List.length_drop] at h1; omega, ?_⟩
    rw [drop_get s at_ j h1] at h2
    exact h2
  · have h1 : nameLen (s.drop at_) < (s.drop at_).length := by rw [List.length_drop]; omega
    have := nameLen_out _ h1
    rw [drop_get s at_ _ h1] at this
    exact this

theorem name_bad {f : Flt} (w : World) (b : Nat) (s : B) (at_ : Nat) (v : Value) (h : RdAt w b s at_ v) (hp : pName (s.drop at_) at_ = .bad f) :
    Calls Try.prog 35 #[.pointer (some ⟨b, 0, none⟩)] w fun e w' => e = thrown f ∧ Qt w w' :=
  (name_any w b s at_ v h).mono fun e w' hh => by
    unfold NameEnds at hh
    unfold pName at hp
    split at hh
    · rename_i h0; rw [if_pos h0] at hp; cases hp; exact hh
    · rename_i h0
      rw [if_neg h0] at hp
      split at hh
      · rename_i h1; rw [if_pos h1] at hp; cases hp; exact hh
      · rename_i h1; rw [if_neg h1] at hp; cases hp

theorem name_ok {nm l' : B} {at' : Nat} (w : World) (b : Nat) (s : B) (at_ : Nat) (v : Value) (h : RdAt w b s at_ v) (hp : pName (s.drop at_) at_ = .ok (nm, l', at')) :
    Calls Try.prog 35 #[.pointer (some ⟨b, 0, none⟩)] w fun e w' => e = .returned (.string (str nm)) ∧ Kept (· = b) w w' ∧ RdAt w' b s at' v ∧ l' = s.drop at' :=
  (name_any w b s at_ v h).mono fun e w' hh => by
    unfold NameEnds at hh
    unfold pName at hp
    split at hh
    · rename_i h0; rw [if_pos h0] at hp; cases hp
    · rename_i h0
      rw [if_neg h0] at hp
      split at hh
      · rename_i h1; rw [if_pos h1] at hp; cases hp
      · rename_i h1; rw [if_neg h1] at hp; cases hp
        exact ⟨hh.1, hh.2.1, hh.2.2, by rw [List.drop_drop]⟩

end Go.Proofs.Ytplbdlgmjehckaa
