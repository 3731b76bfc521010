/-
  Lemmas for the claims of this seat: the program's functions walked, and plain laws. In this order: ShName ShBase ShGuard ShVal ShValue.
-/
import Derived.Test.YtplbdlgmjehckabGreatDoorPk5
import Derived.Test.YtplbdlgmjehckabGreatDoorPk3
import Derived.Deep.AppendLies
import Derived.Deep.LoopGhost
import Derived.Recover
import Derived.WideLaws
import Derived.Test.YtplbdlgmjehckabGreatDoorPk2
import Derived.Deep.RegionHeld3
namespace Go.Proofs.YtplbdlgmjehckabGreatDoor
open Go.RowKit
set_option linter.unusedVariables false
set_option linter.unusedSimpArgs false
theorem named_take {l : B} {j : Nat} (h1 : j + 1 ≤ nameLen l) (h2 : j + 1 ≤ 20) : named (l.take (j + 1)) = true := by
  have hle := nameLen_le l
  refine named_yes (by simp; omega) (by simp; omega) (fun i hi => ?_)
  have hi' : i < j + 1 := by simp at hi; omega
  obtain ⟨h3, h4⟩ := nameLen_in l i (by omega)
  rw [List.getElem_take]; exact h4
theorem named_take_no {l : B} (h : min (nameLen l) 20 < l.length) : named (l.take (min (nameLen l) 20 + 1)) = false := by
  have hle := nameLen_le l
  by_cases h20 : 20 ≤ nameLen l
  · have : min (nameLen l) 20 = 20 := by omega
    rw [this]
    unfold named
    have : (l.take (20 + 1)).length = 21 := by simp; omega
    rw [this]; simp
  · have : min (nameLen l) 20 = nameLen l := by omega
    rw [this] at h ⊢
    have ho := nameLen_out l h
    refine named_no (k := nameLen l) (by simp; omega) ?_
    rw [List.getElem_take]; exact ho
theorem named_ax (c : UInt8) : named [97, c] = isMore c := by
  unfold named
  have : nameLen [97, c] = if isMore c then 2 else 1 := by
    simp only [nameLen]
    rw [if_pos (by decide)]
    simp only [List.takeWhile_cons, List.takeWhile_nil]
    split <;> rfl
  rw [this]
  cases isMore c <;> rfl
theorem more_at {l : B} (h : 20 < l.length) (hn : 20 ≤ nameLen l) : isMore (l[20]'h) = decide (20 < nameLen l) := by
  by_cases h2 : 20 < nameLen l
  · obtain ⟨h3, h4⟩ := nameLen_in l 20 h2
    simpa [inName, h2] using h4
  · have e : nameLen l = 20 := by omega
    have := nameLen_out l (by omega)
    simp only [e] at this
    simpa [inName, h2] using this
theorem named_is (r : Bool) (l : B) (w : World) (h : named l = r) :
    Calls Tryz.prog 144 #[.string (str l)] w fun e w' => e = .returned (.bool r) ∧ w' = w := by
  subst h; exact named_any w l
set_option maxRecDepth 100000 in
set_option maxHeartbeats 1600000 in
theorem sname_sum (w : World) (b : Nat) (s : B) (at_ : Nat) (h : SdAt w b s at_) :
    Calls Tryz.prog 119 #[.pointer (some ⟨b, 0, none⟩)] w (SSum (sName (s.drop at_) at_) w b s (fun _ nm e => e = .returned (.string (str nm)))) := by
  obtain ⟨r, HR⟩ : ∃ r, Hid (sName (s.drop at_) at_ = r) := ⟨_, rfl⟩
  rw [HR.out]
  have H := Lib.hid h
  have c0 := h.c0
  have c1 := h.c1
  have f1 := h.free 1
  have hl := h.2.1
  have hmx := h.2.2
  clear h
  have hnl := nameLen_le (s.drop at_)
  rw [List.length_drop] at hnl
  obtain ⟨n, HN⟩ : ∃ n, Hid (min (nameLen (s.drop at_)) 20 = n) := ⟨_, rfl⟩
  have hn : at_ + n ≤ s.length := by have := HN.out; omega
  have hn20 : n ≤ 20 := by have := HN.out; omega
  clear hnl
  go_enter Tryz.func119, Tryz.ntmps119
  go_upto_block 0 with fail
  go_cut [3] (fun k wx => k = .int .i64 ((at_ + n : Nat) : Int) ∧ Qt w wx)
  case first =>
    go_wp2_with fail
    go_loopw [3] (fun k wr => ∃ j : Nat, j ≤ n ∧ k = .int .i64 ((at_ + j : Nat) : Int) ∧ Hid (Qt w wr)) (fun k _ => s.length - (intOf k).toNat)
    case atStart => exact ⟨0, by omega, rfl, Lib.hid (Qt.refl w)⟩
    case round =>
      obtain ⟨j, hj, rfl, HQ⟩ := hrel
      have c0' := (H.out.quiet HQ.out).c0
      have c1' := (H.out.quiet HQ.out).c1
      by_cases hlt : at_ + j < s.length
      · have e5 : IntKind.i64.wrap ((at_ : Int) + (j : Int) + 1) = (at_ : Int) + (j : Int) + 1 := IntWalk.i64_in _ (by omega)
        have e6 : (0 : Int) ≤ (at_ : Int) + (j : Int) + 1 := by omega
        have e7 : ((at_ : Int) + (j : Int) + 1).toNat = at_ + (j + 1) := by omega
        have e0 : decide ((at_ : Int) + (j : Int) < (s.length : Int)) = true := by simp; omega
        have e8 : (at_ : Int) + (j : Int) + 1 ≤ (s.length : Int) := by omega
        have e9 : (at_ : Int) ≤ (at_ : Int) + (j : Int) + 1 := by omega
        by_cases hjn : j < n
        · have HT : Hid (∀ x, x = j + 1 → named ((s.drop at_).take x) = true) := Lib.hid (fun x hx => by rw [hx]; exact named_take (by have := HN.out; omega) (by omega))
          go_wp2_with fail
          go_quiet ((go_at_call 144; exact Calls.quiet_of_same (named_is true _ _ (HT.out _ (by omega)))))
          go_wp2_with fail
          go_roundw
          case rel => exact ⟨j + 1, by omega, by go_num, Lib.hid (HQ.out.trans ⟨nq, rfl⟩)⟩
          case measure => simp [intOf]; omega
        · have hje : j = n := by omega
          subst hje
          have HT : Hid (∀ x, x = j + 1 → named ((s.drop at_).take x) = false) := Lib.hid (fun x hx => by
            rw [hx]
            have := named_take_no (l := s.drop at_) (by rw [HN.out, List.length_drop]; omega)
            rw [HN.out] at this; exact this)
          go_wp2_with fail
          go_quiet ((go_at_call 144; exact Calls.quiet_of_same (named_is false _ _ (HT.out _ (by omega)))))
          go_wp2_with fail
          go_meet
          case rel => exact ⟨rfl, HQ.out.trans ⟨nq, rfl⟩⟩
      · obtain rfl : j = n := by omega
        have e0 : decide ((at_ : Int) + (j : Int) < (s.length : Int)) = false := by simp; omega
        go_wp2_with fail
        go_quiet (fail)
        go_wp2_with fail
        go_meet
        case rel => exact ⟨rfl, HQ.out.trans ⟨nq, rfl⟩⟩
  case rest =>
    obtain ⟨rfl, hq⟩ := hcut
    have HS := Lib.hid (H.out.quiet hq)
    have HK := Lib.hid (hq.kept (· = b))
    clear c0 c1 f1 hq
    have c0 := HS.out.c0
    have c1 := HS.out.c1
    have f1 := HS.out.free 1
    by_cases h0 : n = 0
    · subst h0
      have hR : Hid (r = .bad ⟨2, at_⟩) := Lib.hid (by rw [← HR.out]; unfold sName; rw [if_pos (.inl (by have := HN.out; omega))])
      have e1 : (((at_ + 0 : Nat) : Int) == (at_ : Int)) = true := by simp
      go_wp2_with fail
      refine (sfail_any 2 _ _ _ _ HS.out).mono ?_
      rintro e w2 ⟨rfl, hq2⟩
      go_wp2_with fail
      exact ⟨rfl, .inl ⟨_, rfl, HK.out.trans (hq2.kept _), hR⟩⟩
    · have e1 : (((at_ : Int) + (n : Int)) == (at_ : Int)) = false := by simp; omega
      have good : ∀ nq, nameLen (s.drop at_) = n → SSum r w b s (fun _ nm e => e = .returned (.string (str nm))) (.returned (.string (str ((s.drop at_).take (at_ + n - at_))))) ((wc.drewN nq).setCell ⟨b, 1, none⟩ (.int .i64 ((at_ : Int) + (n : Int)))) := fun nq hnn =>
        .inr ⟨(s.drop at_).take n, at_ + n, by rw [Nat.add_sub_cancel_left], (HK.out.drewN _).setCell (p := ⟨b, 1, none⟩) (.inl rfl) _, (HS.out.drewN _).set (by omega) hn, Lib.hid (by
          rw [← HR.out]; unfold sName; rw [hnn, if_neg (by omega), List.drop_drop])⟩
      have GOOD := Lib.hid good
      clear good
      by_cases hlt : at_ + n < s.length
      · have e2 : decide ((at_ : Int) + (n : Int) < (s.length : Int)) = true := by simp; omega
        by_cases h20 : n = 20
        · have HM20 := Lib.hid (more_at (l := s.drop at_) (by rw [List.length_drop]; omega) (by have := HN.out; omega))
          subst h20
          have HC := Lib.hid (List.drop_eq_getElem_cons hlt)
          have HT : Hid (named (97 :: (s.drop (at_ + 20)).take 1) = isMore (s[at_ + 20]'hlt)) := Lib.hid (by rw [HC.out]; exact named_ax _)
          have HMM : Hid (isMore (s[at_ + 20]'hlt) = decide (20 < nameLen (s.drop at_))) := Lib.hid (by rw [← HM20.out]; simp)
          cases hm : isMore (s[at_ + 20]'hlt) with
          | true =>
            have hR : Hid (r = .bad ⟨2, at_⟩) := Lib.hid (by rw [← HR.out]; unfold sName; rw [if_pos (.inr (by have := HMM.out; rw [hm] at this; simpa using this.symm))])
            have HM := Lib.hid hm
            clear hm
            go_wp2_with fail
            refine (named_is true _ _ (HT.out.trans HM.out)).mono ?_
            rintro e w2 ⟨rfl, rfl⟩
            go_wp2_with fail
            refine (sfail_any 2 _ _ _ _ HS.out).mono ?_
            rintro e w2 ⟨rfl, hq2⟩
            go_wp2_with fail
            exact ⟨rfl, .inl ⟨_, rfl, HK.out.trans (hq2.kept _), hR⟩⟩
          | false =>
            have HN2 : Hid (nameLen (s.drop at_) = 20) := Lib.hid (by have h1 := HMM.out; rw [hm] at h1; have := HN.out; simp at h1; omega)
            have HM := Lib.hid hm
            clear hm
            go_wp2_with fail
            refine (named_is false _ _ (HT.out.trans HM.out)).mono ?_
            rintro e w2 ⟨rfl, rfl⟩
            go_wp2_with fail
            go_quiet (fail)
            go_wp2_with fail
            go_ret
            exact GOOD.out _ HN2.out
        · have e3 : (((at_ : Int) + (n : Int) - (at_ : Int)) == 20) = false := by simp; omega
          have e4 : ((n : Int) == 20) = false := by simp; omega
          have HN2 : Hid (nameLen (s.drop at_) = n) := Lib.hid (by have := HN.out; omega)
          go_wp2_with fail
          go_quiet (fail)
          go_wp2_with fail
          go_ret
          exact GOOD.out _ HN2.out
      · have e2 : decide ((at_ : Int) + (n : Int) < (s.length : Int)) = false := by simp; omega
        have HN2 : Hid (nameLen (s.drop at_) = n) := Lib.hid (by
          have h1 := HN.out
          by_cases h3 : n < nameLen (s.drop at_)
          · have := nameLen_le (s.drop at_); rw [List.length_drop] at this; omega
          · omega)
        go_wp2_with fail
        go_quiet (fail)
        go_wp2_with fail
        go_ret
        exact GOOD.out _ HN2.out
end Go.Proofs.YtplbdlgmjehckabGreatDoor

namespace Go.Proofs.YtplbdlgmjehckabGreatDoor
open Go.RowKit
set_option linter.unusedVariables false
set_option linter.unusedSimpArgs false
theorem seat_is (r : Bool) (word : B) (w : World) (b : Nat) (s : B) (at_ : Nat) (h : SdAt w b s at_) (hp : word.isPrefixOf (s.drop at_) = r) :
    Calls Tryz.prog 118 #[.pointer (some ⟨b, 0, none⟩), .string (str word)] w fun e w' => e = .returned (.bool r) ∧ Kept (· = b) w w' ∧ SdAt w' b s (at_ + if r then word.length else 0) := by
  cases r with
  | false => exact (seat_no word w b s at_ h hp).mono fun e w' ⟨h1, h2⟩ => ⟨h1, (show Qt w w' from h2).kept _, h.quiet h2⟩
  | true => exact seat_yes word w b s at_ h hp
theorem SSum.bad {α : Type} {X : Ans (α × B × Nat)} {w : World} {b : Nat} {s : B} {R : World → α → Ending → Prop} {w' : World} {f : Flt} (hk : Kept (· = b) w w') (hX : X = .bad f) : SSum X w b s R (sthrown f) w' :=
  .inl ⟨f, rfl, hk, Lib.hid hX⟩
theorem own_grow {w0 w w' : World} {b base e size n : Nat} {v : Value} {xs : List Value} {o : Obj} (hk : Kept (· = b) w0 w) (hb : w0.heap.size = base) (hown : w.ownsRow base e size v n xs) (hg : (w.alloc o).grownBy w' v.ownBlock) : Kept (· = b) w0 w' :=
  (hk.alloc o).grown hg (fun k hk => .inr (by have := (hown.lt k hk).1; omega))
theorem own_rd {w w' : World} {b base e size n at_ : Nat} {s : B} {v : Value} {xs : List Value} {o : Obj} (h : SdAt w b s at_) (hb : b < base) (hown : w.ownsRow base e size v n xs) (hg : (w.alloc o).grownBy w' v.ownBlock) : SdAt w' b s at_ :=
  h.kept (((Kept.refl (fun k => v.ownBlock = some k) w).alloc o).grown hg (fun k hk => .inl hk)) (fun hk => by have := (hown.lt b hk).1; omega)
end Go.Proofs.YtplbdlgmjehckabGreatDoor

namespace Go.Proofs.YtplbdlgmjehckabGreatDoor
open Go.RowKit
set_option linter.unusedVariables false
set_option linter.unusedSimpArgs false
set_option maxHeartbeats 400000 in
theorem sguard_panicking (fb : Nat) (f : Flt) (w : World) (v1 v2 : Value) (hf : w.heap[fb]? = some (.cells #[v1, v2] 29 (0,0))) :
    CallsD Tryz.prog 74 #[.pointer (some ⟨fb, 0, none⟩)] (.panicking ({ v := soops f, recovered := false } :: [])) w fun e u' w' =>
      e = .returned (.tuple #[]) ∧ u' = .panicking ({ v := soops f, recovered := true } :: []) ∧ Kept (· = fb) w w' ∧
        w'.heap[fb]? = some (.cells #[.int .i64 f.err, .int .i64 f.pos] 29 (0,0)) := by
  refine callsD_of_wpS Tryz.func74 rfl fun c₀ cs hu => ?_
  apply wpS_seq
  apply wpS_region
  unfold soops at hu ⊢
  simp [wpOpsS, go_sem, recoverD, hu, Tryz.ntmps74, Exit.thenS]
  refine wpS_of_wp ?_
  have hg : eqGuard .eql 20 (.tmp 5) (.const .nilIface) (.iface 200 (.agg #[.int .i64 (f.err : Int), .int .i64 (f.pos : Int)])) .nilIface = pure () := rfl
  have hta : ∀ w, (Instr.typeAssert (.iface 200 (.agg #[.int .i64 (f.err : Int), .int .i64 (f.pos : Int)])) 20 200 true).run Tryz.prog w = .ok (.tuple #[.agg #[.int .i64 (f.err : Int), .int .i64 (f.pos : Int)], .bool true]) w := fun w => by kernel_rfl
  simp only [Array.replicate_succ, Array.replicate_zero, List.push_toArray, List.append_toArray, List.nil_append, List.cons_append, List.setIfInBounds_toArray, List.set_cons_succ, List.set_cons_zero]
  have g0 := cellIn hf 0 rfl
  have g1 := cellIn hf 1 rfl
  have g0f := freeIn hf 0
  have g1f := freeIn hf 1
  have hfl := ltIn hf
  go_wp2
  simp [bodyPostS, results, Tryz.results74]
  refine ⟨?_, ?_⟩
  · exact ((((Kept.refl (· = fb) w).setCell (p := ⟨fb, 0, none⟩) (.inl rfl) _).setCell (p := ⟨fb, 1, none⟩) (.inl rfl) _).alloc _)
  · exact oldIn (setIn (setIn hf 0 (.int .i64 f.err)) 1 (.int .i64 f.pos)) _
set_option maxHeartbeats 400000 in
theorem sguard_idle (p : Addr) (w : World) :
    CallsD Tryz.prog 74 #[.pointer (some p)] .returning w fun e u' w' => e = .returned (.tuple #[]) ∧ u' = .returning ∧ w' = w := by
  refine callsD_of_wpS Tryz.func74 rfl fun c₀ cs hu => ?_
  apply wpS_seq
  apply wpS_region
  simp [wpOpsS, go_sem, recoverD, hu, Tryz.ntmps74, Exit.thenS]
  refine wpS_of_wp ?_
  have hg : eqGuard .eql 20 (.tmp 5) (.const .nilIface) .nilIface .nilIface = pure () := rfl
  simp only [Array.replicate_succ, Array.replicate_zero, List.push_toArray, List.append_toArray, List.nil_append, List.cons_append, List.setIfInBounds_toArray, List.set_cons_succ, List.set_cons_zero]
  go_wp2
  cases c₀
  simp_all [bodyPostS, results, Tryz.results74]
end Go.Proofs.YtplbdlgmjehckabGreatDoor

namespace Go.Proofs.YtplbdlgmjehckabGreatDoor
open Go.RowKit
set_option linter.unusedVariables false
set_option linter.unusedSimpArgs false
theorem index_sign (c : UInt8) : decide (0 ≤ Lib.indexByte [35, 46, 37, 45] c) = (decide (c.toNat = 35) || decide (c.toNat = 46) || decide (c.toNat = 37) || decide (c.toNat = 45)) := by
  have h : ∀ a b : UInt8, (a == b) = decide (b.toNat = a.toNat) := fun a b => by
    rw [Bool.eq_iff_iff, beq_iff_eq, decide_eq_true_eq]
    constructor
    · rintro rfl; rfl
    · intro h; exact (UInt8.toNat_inj.1 h).symm
  have e35 : (35 : UInt8).toNat = 35 := rfl
  have e46 : (46 : UInt8).toNat = 46 := rfl
  have e37 : (37 : UInt8).toNat = 37 := rfl
  have e45 : (45 : UInt8).toNat = 45 := rfl
  simp only [Lib.indexByte, h, e35, e46, e37, e45]
  by_cases h1 : c.toNat = 35
  · simp [h1]
  · by_cases h2 : c.toNat = 46
    · simp [h2]
    · by_cases h3 : c.toNat = 37
      · simp [h3]
      · by_cases h4 : c.toNat = 45
        · simp [h4]
        · simp [h1, h2, h3, h4]
set_option maxRecDepth 100000 in
set_option maxHeartbeats 800000 in
theorem word_any (c : UInt8) (w : World) :
    Calls Tryz.prog 147 #[.int .u8 (c.toNat : Int)] w fun e w' => e = .returned (.bool (isWord c)) ∧ w' = w := by
  have hc := c.toNat_lt
  have hcI : (c.toNat : Int) < 256 := by omega
  have hs : Hid (decide (0 ≤ Lib.indexByte [35, 46, 37, 45] c) = (decide (c.toNat = 35) || decide (c.toNat = 46) || decide (c.toNat = 37) || decide (c.toNat = 45))) := Lib.hid (index_sign c)
  by_cases h1 : 97 ≤ c.toNat ∧ c.toNat ≤ 122
  · have e : isWord c = true := by unfold isWord isLow; simp [h1.1, h1.2]
    have q1 : (97 : Int) ≤ (c.toNat : Int) := by omega
    have q2 : (c.toNat : Int) ≤ 122 := by omega
    rw [e]
    go_enter Tryz.func147, Tryz.ntmps147
    go_wp2_with fail
    go_ret
    exact ⟨rfl, rfl⟩
  · by_cases h2 : 48 ≤ c.toNat ∧ c.toNat ≤ 57
    · have e : isWord c = true := by unfold isWord; simp [h2.1, h2.2]
      have q1 : (48 : Int) ≤ (c.toNat : Int) := by omega
      have q2 : (c.toNat : Int) ≤ 57 := by omega
      rw [e]
      go_enter Tryz.func147, Tryz.ntmps147
      go_wp2_with fail
      go_ret
      exact ⟨rfl, rfl⟩
    · have e : isWord c = decide (0 ≤ Lib.indexByte [35, 46, 37, 45] c) := by
        rw [hs.out]
        unfold isWord isLow
        have a1 : (decide (97 ≤ c.toNat) && decide (c.toNat ≤ 122)) = false := by simp; omega
        have a2 : (decide (48 ≤ c.toNat) && decide (c.toNat ≤ 57)) = false := by simp; omega
        rw [a1, a2]; simp
      have e1 : decide ((97 : Int) ≤ (c.toNat : Int)) = decide (97 ≤ c.toNat) := by rw [Bool.eq_iff_iff]; simp; omega
      rw [e]
      clear e
      have hcall : ∀ W, Calls Tryz.prog 163 #[.string ⟨#[35, 46, 37, 45]⟩, .int .u8 (c.toNat : Int)] W fun e w' => e = .returned (.int .i64 (Lib.indexByte [35, 46, 37, 45] c)) ∧ w' = W := fun W => by
        have := Tryz.strings_IndexByte (str [35, 46, 37, 45]) (c.toNat : Int) W
        have hcc : (c.toNat : Int).toNat.toUInt8 = c := by simp
        rw [hcc] at this
        exact this
      have HC := Lib.hid hcall
      clear hcall hs
      clear e1
      by_cases h3 : 97 ≤ c.toNat
      · have q1 : decide ((97 : Int) ≤ (c.toNat : Int)) = true := by simp; omega
        have q2 : decide ((c.toNat : Int) ≤ 122) = false := by simp; omega
        have q3 : decide ((48 : Int) ≤ (c.toNat : Int)) = true := by simp; omega
        have q4 : decide ((c.toNat : Int) ≤ 57) = false := by simp; omega
        go_enter Tryz.func147, Tryz.ntmps147
        go_wp2_with fail
        refine (HC.out _).mono ?_
        rintro e w1 ⟨rfl, rfl⟩
        go_wp2_with fail
        go_ret
        exact ⟨rfl, rfl⟩
      · by_cases h4 : 48 ≤ c.toNat
        · have q1 : decide ((97 : Int) ≤ (c.toNat : Int)) = false := by simp; omega
          have q3 : decide ((48 : Int) ≤ (c.toNat : Int)) = true := by simp; omega
          have q4 : decide ((c.toNat : Int) ≤ 57) = false := by simp; omega
          go_enter Tryz.func147, Tryz.ntmps147
          go_wp2_with fail
          refine (HC.out _).mono ?_
          rintro e w1 ⟨rfl, rfl⟩
          go_wp2_with fail
          go_ret
          exact ⟨rfl, rfl⟩
        · have q1 : decide ((97 : Int) ≤ (c.toNat : Int)) = false := by simp; omega
          have q3 : decide ((48 : Int) ≤ (c.toNat : Int)) = false := by simp; omega
          go_enter Tryz.func147, Tryz.ntmps147
          go_wp2_with fail
          refine (HC.out _).mono ?_
          rintro e w1 ⟨rfl, rfl⟩
          go_wp2_with fail
          go_ret
          exact ⟨rfl, rfl⟩
theorem join_is : ∀ ws : List B, Lib.join ws [32] = joinW ws
  | [] => rfl
  | [w] => by simp [Lib.join, joinW]
  | w :: x :: ws => by
    have := join_is (x :: ws)
    rw [joinW_cons w (x :: ws) (by simp), ← this]
    simp [Lib.join, List.intercalate, List.intersperse]
end Go.Proofs.YtplbdlgmjehckabGreatDoor

namespace Go.Proofs.YtplbdlgmjehckabGreatDoor
open Go.RowKit
set_option linter.unusedVariables false
set_option linter.unusedSimpArgs false
def wordCells (x : B) : List Value := [.string (str x)]
def nW (ws : List B) : Nat := (ws.map fun w => w.length + 1).sum
theorem nW_push (ws : List B) (w : B) : nW (ws ++ [w]) = nW ws + (w.length + 1) := by simp [nW]
theorem nW_join : ∀ ws : List B, ws ≠ [] → nW ws = (joinW ws).length + 1
  | [], h => absurd rfl h
  | [w], _ => by simp [nW, joinW]
  | w :: x :: ws, _ => by
    have := nW_join (x :: ws) (by simp)
    rw [joinW_cons w (x :: ws) (by simp)]
    simp only [nW, List.map_cons, List.sum_cons, List.length_append, List.length_cons, List.length_nil] at this ⊢
    omega
theorem word_rows {ws : List B} : ∀ r ∈ ws.map wordCells, r.length = 1 := by
  intro r hr
  obtain ⟨a, _, rfl⟩ := List.mem_map.1 hr
  rfl
theorem word_is (q : Bool) (c : UInt8) (w : World) (h : isWord c = q) :
    Calls Tryz.prog 147 #[.int .u8 (c.toNat : Int)] w fun e w' => e = .returned (.bool q) ∧ w' = w := by
  subst h; exact word_any c w
theorem sValL_step {f : Nat} {ws : List B} {l : B} {a : Nat} {r : Ans (B × B × Nat)} (h : sValL (f + 1) ws l a = r) :
    (if l.takeWhile isWord = [] then (if ws = [] then .bad ⟨2, a⟩ else .ok (joinW ws, l, a))
    else if 60 < (joinW (ws ++ [l.takeWhile isWord])).length then .bad ⟨4, a⟩
    else (sGap (l.drop (l.takeWhile isWord).length) (a + (l.takeWhile isWord).length)).then fun x => sValL f (ws ++ [l.takeWhile isWord]) x.1 x.2) = r := by
  rw [← h, sValL]
theorem own_grow2 {w0 w wm w' : World} {b base e size n : Nat} {v : Value} {xs : List Value} (hk : Kept (· = b) w0 w) (hb : w0.heap.size = base) (hown : w.ownsRow base e size v n xs) (hm : Kept (fun _ => False) w wm) (hg : wm.grownBy w' v.ownBlock) : Kept (· = b) w0 w' :=
  (hk.trans (hm.mono (fun _ _ h => h.elim))).grown hg (fun k hk => .inr (by have := (hown.lt k hk).1; omega))
theorem own_rd2 {w wm w' : World} {b base e size n at_ : Nat} {s : B} {v : Value} {xs : List Value} (h : SdAt w b s at_) (hb : b < base) (hown : w.ownsRow base e size v n xs) (hm : Kept (fun _ => False) w wm) (hg : wm.grownBy w' v.ownBlock) : SdAt w' b s at_ :=
  h.kept ((hm.mono (T := fun k => v.ownBlock = some k) (fun _ _ h => h.elim)).grown hg (fun k hk => .inl hk)) (fun hk => by have := (hown.lt b hk).1; omega)
structure VLoop (w wr : World) (b : Nat) (s : B) (base : Nat) (r : Ans (B × B × Nat)) (l : Value) (ws : List B) (at' : Nat) : Prop where
  rd : SdAt wr b s at'
  own : wr.ownsRow base 9 1 l ws.length (ws.map wordCells).flatten
  few : nW ws ≤ 61
  kept : Kept (· = b) w wr
  rest : ∃ f, (s.drop at').length < f ∧ sValL f ws (s.drop at') at' = r
set_option maxRecDepth 100000 in
set_option maxHeartbeats 3200000 in
theorem sval_sum (w : World) (b : Nat) (s : B) (at_ : Nat) (m : Int) (h : SdAt w b s at_) (hm : w.cell? ⟨0, 0, none⟩ = some (.int .i64 m)) (hb0 : 0 < b) :
    Calls Tryz.prog 124 #[.pointer (some ⟨b, 0, none⟩)] w (SSum (sVal (s.drop at_) at_) w b s (fun w' v e => e = .returned (.string (str v)))) := by
  obtain ⟨r, HR⟩ : ∃ r, Hid (sVal (s.drop at_) at_ = r) := ⟨_, rfl⟩
  rw [HR.out]
  have HM := Lib.hid hm
  obtain ⟨i0, hi0, hz0, hz1, hz2⟩ := info_parts info_str
  obtain ⟨base, HBASE⟩ : ∃ base, Hid (w.heap.size = base) := ⟨_, rfl⟩
  have hbb : b < base := by have := h.lt; have := HBASE.out; omega
  have H := Lib.hid h
  have hl := h.2.1
  have hmx := h.2.2
  clear h hm
  have HP0 : Hid (VLoop w w b s base r (.slice none 0 0) [] at_) := Lib.hid ⟨H.out, World.ownsRow_nil _ _ _ _, by simp [nW], Kept.refl _ _, _, Nat.lt_succ_self _, HR.out⟩
  go_enter Tryz.func124, Tryz.ntmps124
  go_upto_block 0 with fail
  go_cut [3] (fun l wx => ∃ ws at', VLoop w wx b s base r l ws at' ∧ Hid ((s.drop at').takeWhile isWord = []))
  case first =>
    go_wp2_with fail
    go_loopg [3, 4] (s.length - at_) (fun k l n wr => ∃ ws at', VLoop w wr b s base r l ws at' ∧ n = .int .i64 (nW ws : Int) ∧ k = s.length - at')
    case atStart => exact ⟨[], at_, HP0.out, rfl, rfl⟩
    case round =>
      obtain ⟨ws, at', hL, rfl, hk⟩ := hrel
      have HL := Lib.hid hL
      have hfew := hL.few
      have hl' := hL.rd.2.1
      have c0 := hL.rd.c0
      have c1 := hL.rd.c1
      have hform : ∃ vo vc, u3 = .slice vo ws.length vc := by
        rcases hL.own.2 with ⟨h, hn⟩ | ⟨g, cap, cur, h, _⟩
        · exact ⟨none, 0, by rw [h, hn]⟩
        · exact ⟨_, cap, h⟩
      obtain ⟨lo, lc, rfl⟩ := hform
      clear hL
      obtain ⟨n, HN⟩ : ∃ n, Hid (((s.drop at').takeWhile isWord).length = n) := ⟨_, rfl⟩
      have hnle : at' + n ≤ s.length := by
        have := takeWhile_len_le isWord (s.drop at'); rw [HN.out, List.length_drop] at this; omega
      by_cases h0 : n = 0
      · subst h0
        have HE : Hid ((s.drop at').takeWhile isWord = []) := Lib.hid (List.length_eq_zero_iff.1 HN.out)
        by_cases hlt : at' < s.length
        · have e0 : decide ((at' : Int) < (s.length : Int)) = true := by simp; omega
          have hw : Hid (isWord (s[at']'hlt) = false) := Lib.hid (by
            have := takeWhile_stop isWord (s.drop at') (by rw [HN.out, List.length_drop]; omega)
            simp only [HN.out] at this
            simpa using this)
          go_wp2_with fail
          go_quiet ((go_at_call 147; exact Calls.quiet_of_same (word_is false _ _ hw.out)))
          go_wp2_with fail
          go_meet
          case rel => exact ⟨ws, at', ⟨HL.out.rd.drewN _, (owns_kept (S := fun _ => False) HL.out.own ((Kept.refl _ _).drewN _) (fun _ _ => id)), HL.out.few, HL.out.kept.drewN _, HL.out.rest⟩, HE⟩
        · have e0 : decide ((at' : Int) < (s.length : Int)) = false := by simp; omega
          go_wp2_with fail
          go_quiet (fail)
          go_wp2_with fail
          go_meet
          case rel => exact ⟨ws, at', ⟨HL.out.rd.drewN _, (owns_kept (S := fun _ => False) HL.out.own ((Kept.refl _ _).drewN _) (fun _ _ => id)), HL.out.few, HL.out.kept.drewN _, HL.out.rest⟩, HE⟩
      · have hlt : at' < s.length := by omega
        have e0 : decide ((at' : Int) < (s.length : Int)) = true := by simp; omega
        have hin : Hid (∀ j, j < n → ∃ h : at' + j < s.length, isWord (s[at' + j]'h) = true) := Lib.hid (fun j hj => by
          obtain ⟨h1, h2⟩ := takeWhile_in isWord (s.drop at') j (by rw [HN.out]; exact hj)
          refine ⟨by omega, ?_⟩
          simpa using h2)
        have hw : Hid (isWord (s[at']'hlt) = true) := Lib.hid (by obtain ⟨_, h⟩ := hin.out 0 (by omega); exact h)
        go_wp2_with fail
        go_quiet ((go_at_call 147; exact Calls.quiet_of_same (word_is true _ _ hw.out)))
        go_upto_block 2 with fail
        obtain ⟨w1, HW1⟩ : ∃ w1, Hid (wr.drewN nq = w1) := ⟨_, rfl⟩
        have hq1 : Qt wr w1 := ⟨nq, HW1.out.symm⟩
        rw [HW1.out]
        have H1 := Lib.hid (HL.out.rd.quiet hq1)
        have K1 := Lib.hid (HL.out.kept.trans (hq1.kept _))
        have how := owns_kept HL.out.own (hq1.kept (fun _ => False)) (fun _ _ => id)
        have hsz : base ≤ w1.heap.size := by have := K1.out.size; have := HBASE.out; omega
        have HOW := Lib.hid how
        clear c0 c1 hq1 how e0
        have c0 := H1.out.c0
        have c1 := H1.out.c1
        obtain ⟨q, HQ⟩ : ∃ q, Hid (at' + n = q) := ⟨_, rfl⟩
        have hqn : q = at' + n := HQ.out.symm
        go_cut [5] (fun k wx => k = .int .i64 (q : Int) ∧ wx = w1)
        case first =>
          go_wp2_with fail
          go_loop [5] (fun k => ∃ j : Nat, j ≤ n ∧ k = .int .i64 ((at' + j : Nat) : Int)) (fun k => s.length - (intOf k).toNat)
          case atStart => exact ⟨0, by omega, rfl⟩
          case round =>
            obtain ⟨j, hj, rfl⟩ := hrel
            by_cases hjn : j < n
            · obtain ⟨h3, h2⟩ := hin.out j hjn
              have e0 : decide ((at' : Int) + (j : Int) < (s.length : Int)) = true := by simp; omega
              have HW := Lib.hid h2
              clear h2
              go_wp2_with (go_at_call 147; refine (word_is true _ _ HW.out).mono ?_; rintro e w2 ⟨rfl, rfl⟩)
              go_round
              case rel => exact ⟨j + 1, by omega, by go_num⟩
              case measure => simp [intOf]; omega
            · obtain rfl : j = n := by omega
              by_cases hl2 : at' + j < s.length
              · have e0 : decide ((at' : Int) + (j : Int) < (s.length : Int)) = true := by simp; omega
                have HW : Hid (isWord (s[at' + j]'hl2) = false) := Lib.hid (by
                  have := takeWhile_stop isWord (s.drop at') (by rw [HN.out, List.length_drop]; omega)
                  simp only [HN.out] at this
                  simpa using this)
                go_wp2_with (go_at_call 147; refine (word_is false _ _ HW.out).mono ?_; rintro e w2 ⟨rfl, rfl⟩)
                go_meet
                case rel => exact ⟨by rw [hqn]; simp, rfl⟩
              · have e0 : decide ((at' : Int) + (j : Int) < (s.length : Int)) = false := by simp; omega
                go_wp2_with fail
                go_meet
                case rel => exact ⟨by rw [hqn]; simp, rfl⟩
        case rest =>
          obtain ⟨rfl, rfl⟩ := hcut
          have HNO : Hid (some b ≠ (Value.slice lo ws.length lc).ownBlock) := Lib.hid fun hx => by
            have := (HOW.out.lt b hx.symm).1; omega
          have hblt := H1.out.lt
          have e1 : (0 : Int) ≤ (at' : Int) := by omega
          have e2 : (at' : Int) ≤ (q : Int) := by omega
          have e3 : (q : Int) ≤ (s.length : Int) := by omega
          have hqle : q ≤ s.length := by omega
          have hqlt : at' < q := by omega
          have hwn : ws.length ≤ nW ws := by
            have : ∀ l : List B, l.length ≤ nW l := fun l => by
              induction l with
              | nil => simp [nW]
              | cons x l ih => simp only [nW, List.map_cons, List.sum_cons, List.length_cons] at ih ⊢; omega
            exact this ws
          have h63 : ws.length + 1 ≤ maxLen := by unfold maxLen; omega
          clear hqn
          go_upto_region 7 with fail
          have how1 := HOW.out
          go_region_held3 (fun w' => w'.cell? ⟨b, 0, none⟩ = some (.string (str s)) ∧ w'.cell? ⟨b, 1, none⟩ = some (.int .i64 (at' : Int))) (first | go_keep | (go_split_ands; refine ⟨?_, ?_⟩ <;> (rw [hgrow.cell_far _ (by simp; omega) HNO.out]; assumption)))
            ((refine step_append_lies _ (by rfl) _ _ _ (by rfl) base 9 i0 _ 1 16 Tryz.underlying24 hi0 hz0 hz1 hz2 rfl (by omega) _ ws.length _ (by rfl) (how1.alloc _) ⟨wc.heap.size, 0, none⟩ 1 1 (wordCells ((s.drop at').take (q - at'))) (by rfl) (by rfl) (World.news_of_block (cs := (wordCells ((s.drop at').take (q - at'))).toArray) (t := 9) (fr := (0, 0)) (heap_alloc_new wc _)) (by simp [wordCells, Value.oneCell']) (by omega) h63 (by omega) (by simp; omega) (wc.heap.size + 1) (by simp) ?_; intro gg cap w5 hown5 hgrow hat hlt5))
          all_goals
            have HWT : Hid ((s.drop at').takeWhile isWord = (s.drop at').take (q - at')) := Lib.hid (by
              have := takeWhile_take isWord (s.drop at')
              rw [HN.out] at this
              rw [← this, ← HQ.out, Nat.add_sub_cancel_left])
            obtain ⟨W, HWD⟩ : ∃ W, Hid ((s.drop at').take (q - at') = W) := ⟨_, rfl⟩
            have HWL : Hid (W.length = q - at') := Lib.hid (by rw [← HWD.out]; simp; omega)
            have HJL : Hid (nW ws + (q - at' + 1) = (joinW (ws ++ [W])).length + 1) := Lib.hid (by
              rw [← nW_join _ (by simp), nW_push, HWL.out])
            rw [HWD.out] at hown5
            have H5 := Lib.hid (own_rd2 H1.out hbb HOW.out ((Kept.refl _ _).alloc _).drew hgrow)
            have K5 := Lib.hid (own_grow2 K1.out HBASE.out HOW.out ((Kept.refl _ _).alloc _).drew hgrow)
            have c0' := H5.out.c0
            have c1' := H5.out.c1
            have f1' := H5.out.free 1
            have HST : Hid (∃ f, (s.drop at').length < f + 1 ∧ (if 60 < (joinW (ws ++ [W])).length then Ans.bad ⟨4, at'⟩ else (sGap (s.drop q) q).then fun x => sValL f (ws ++ [W]) x.1 x.2) = r) := Lib.hid (by
              obtain ⟨f, hf, hr⟩ := HL.out.rest
              cases f with
              | zero => omega
              | succ f =>
                have hst := sValL_step hr
                rw [HWT.out, HWD.out] at hst
                have hne : W ≠ [] := fun h => by have := HWL.out; rw [h] at this; simp at this; omega
                rw [if_neg hne, HWL.out, List.drop_drop, show at' + (q - at') = q from by omega] at hst
                exact ⟨f, hf, hst⟩)
            have HOWN5 := Lib.hid hown5
            clear c0 c1 hown5 how1
            by_cases hbig : 60 < nW ws + (q - at' + 1) - 1
            · have hR : Hid (r = .bad ⟨4, at'⟩) := Lib.hid (by
                obtain ⟨f, hf, hr⟩ := HST.out
                rw [← hr, if_pos (by have := HJL.out; omega)])
              have q4 : (60 : Int) < (nW ws : Int) + ((q : Int) - (at' : Int) + 1) - 1 := by omega
              clear hbig
              go_wp2_with fail
              refine (sfail_any 4 _ _ _ _ H5.out).mono ?_
              rintro e w9 ⟨rfl, hq9⟩
              go_wp2_with fail
              exact ⟨rfl, .bad (K5.out.trans (hq9.kept _)) hR.out⟩
            · have q4 : (nW ws : Int) + ((q : Int) - (at' : Int) + 1) - 1 ≤ 60 := by omega
              have HST2 : Hid (∃ f, (s.drop at').length < f + 1 ∧ ((sGap (s.drop q) q).then fun x => sValL f (ws ++ [W]) x.1 x.2) = r) := Lib.hid (by
                obtain ⟨f, hf, hr⟩ := HST.out
                rw [if_neg (by have := HJL.out; omega)] at hr
                exact ⟨f, hf, hr⟩)
              have H6 := Lib.hid (H5.out.set (x := (q : Int)) rfl hqle)
              have K6 := Lib.hid (K5.out.setCell (p := ⟨b, 1, none⟩) (.inl rfl) (.int .i64 (q : Int)))
              have HOW6 := Lib.hid (owns_kept HOWN5.out ((Kept.refl (· = b) _).setCell (p := ⟨b, 1, none⟩) (.inl rfl) (.int .i64 (q : Int))) (fun k hk => by have := (HOWN5.out.lt k hk).1; omega))
              have HM6 := Lib.hid (K6.out.cell (by show ¬ (0 = b); omega) HM.out)
              have HNW : Hid (((nW ws : Int) + ((q : Int) - (at' : Int) + 1)) = ((nW (ws ++ [W]) : Nat) : Int)) := Lib.hid (by rw [nW_push, HWL.out]; omega)
              have hnw : nW (ws ++ [W]) ≤ 61 := by rw [nW_push, HWL.out]; omega
              go_wp2_with fail
              generalize (w5.setCell ⟨b, 1, none⟩ (.int .i64 (q : Int))) = w6 at *
              refine (sblank_sum _ _ _ _ m H6.out HM6.out hb0).mono ?_
              rintro e w7 (⟨g, rfl, hk7, hp7⟩ | ⟨at7, rfl, hk7, h7, hp7⟩)
              · have hR : Hid (r = .bad g) := Lib.hid (by
                  obtain ⟨f, hf, hr⟩ := HST2.out
                  rw [← hr, hp7.out]; rfl)
                have K7 := Lib.hid (K6.out.trans hk7)
                clear hk7
                go_wp2_with fail
                exact ⟨rfl, .bad K7.out hR.out⟩
              · have hl7 := h7.2.1
                have hle7 : q ≤ at7 := by
                  obtain ⟨g, _, h1, h2, _⟩ := gap_loc hp7.out
                  omega
                have K7 := Lib.hid (K6.out.trans hk7)
                have H7 := Lib.hid h7
                have HOW7 := Lib.hid (owns_kept HOW6.out hk7 (fun k hk => by have := (HOW6.out.lt k hk).1; omega))
                have hR : Hid (∃ f, (s.drop at7).length < f ∧ sValL f (ws ++ [W]) (s.drop at7) at7 = r) := Lib.hid (by
                  obtain ⟨f, hf, hr⟩ := HST2.out
                  rw [hp7.out, Ans.ok_then] at hr
                  exact ⟨f, by rw [List.length_drop] at hf ⊢; omega, hr⟩)
                clear hk7 h7
                go_wp2_with fail
                go_roundg (s.length - at7)
                case measure => omega
                case rel => exact ⟨ws ++ [W], at7, ⟨H7.out, by simpa using HOW7.out, hnw, K7.out, hR.out⟩, by rw [HNW.out], rfl⟩
  case rest =>
    obtain ⟨ws, at', hL, HE⟩ := hcut
    have HL := Lib.hid hL
    have hfew := hL.few
    have hwn : ws.length ≤ nW ws := by
      have : ∀ l : List B, l.length ≤ nW l := fun l => by
        induction l with
        | nil => simp [nW]
        | cons x l ih => simp only [nW, List.map_cons, List.sum_cons, List.length_cons] at ih ⊢; omega
      exact this ws
    have HR' : Hid ((if ws = [] then Ans.bad ⟨2, at'⟩ else .ok (joinW ws, s.drop at', at')) = r) := Lib.hid (by
      obtain ⟨f, hf, hr⟩ := HL.out.rest
      cases f with
      | zero => omega
      | succ f =>
        have := sValL_step hr
        rw [HE.out, if_pos rfl] at this
        exact this)
    have hrows := rowsAt_of_owns word_rows (by simp) hL.own
    obtain ⟨va, vc, hv, hle, hcap, hcell⟩ := hrows
    simp only [List.length_map] at hv hle
    subst hv
    have HCELL := Lib.hid hcell
    clear hL hcell
    by_cases h0 : ws = []
    · subst h0
      have hR : Hid (r = .bad ⟨2, at'⟩) := Lib.hid (by rw [← HR'.out]; rfl)
      have e0 : (((([] : List B).length : Nat) : Int) == 0) = true := by simp
      go_wp2_with fail
      refine (sfail_any 2 _ _ _ _ HL.out.rd).mono ?_
      rintro e w9 ⟨rfl, hq9⟩
      go_wp2_with fail
      exact ⟨rfl, .bad (HL.out.kept.trans (hq9.kept _)) hR.out⟩
    · have hR : Hid (r = .ok (joinW ws, s.drop at', at')) := Lib.hid (by rw [← HR'.out, if_neg h0])
      have hpos : 0 < ws.length := List.length_pos_iff.2 h0
      have e0 : ((ws.length : Int) == 0) = false := by simp; exact h0
      obtain ⟨vb, vo, rfl, hc⟩ := HCELL.out (by simpa using h0)
      have hlt : vb < wc.heap.size := by
        have h1 := hc 0 (wordCells (ws[0]'hpos)) (by simp [List.getElem?_eq_getElem hpos]) 0 _ rfl
        exact World.block_lt_of_cell? wc _ h1
      have HJOIN : Hid (Calls Tryz.prog 81 #[.slice (some ⟨vb, vo, none⟩) ws.length vc, .string ⟨#[32]⟩] wc fun e w' => e = .returned (.string (str (joinW ws))) ∧ Below wc.heap.size wc w') := Lib.hid (by
        have hx : (ws.map str).map (·.data.toList) = ws := by rw [List.map_map]; exact (List.map_congr_left (fun x _ => rfl)).trans (List.map_id ws)
        have := Tryz.strings_Join vb vo vc (ws.map str) ⟨#[32]⟩ wc (fun j x hx => by
          simp only [List.getElem?_map, Option.map_eq_some_iff] at hx
          obtain ⟨y, hy, rfl⟩ := hx
          have := hc j (wordCells y) (by simp [hy]) 0 _ rfl
          simpa using this) hlt (by simp; omega) (by simpa using hle) (by
          rw [hx]
          show (Lib.join ws [32]).length ≤ _
          rw [join_is]
          have := nW_join ws h0
          omega)
        rw [hx] at this
        rw [show Lib.join ws (⟨#[32]⟩ : ByteArray).data.toList = joinW ws from join_is ws, List.length_map] at this
        exact this)
      clear h0
      go_wp2_with fail
      refine HJOIN.out.mono ?_
      rintro e w9 ⟨rfl, hb9⟩
      have K9 := Lib.hid (Kept.of_below (S := (· = b)) hb9)
      have H9 := Lib.hid (HL.out.rd.kept (Kept.of_below (S := fun _ => False) hb9) id)
      clear hb9
      go_wp2_with fail
      go_ret
      exact .inr ⟨joinW ws, at', rfl, HL.out.kept.trans K9.out, H9.out, hR⟩
end Go.Proofs.YtplbdlgmjehckabGreatDoor

