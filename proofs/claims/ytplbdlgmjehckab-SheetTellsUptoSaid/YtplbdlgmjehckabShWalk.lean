/-
  The reader of sheets, function by function: what a call does, by ShSpec's functions: fail, is, eat, must, gaps, names.
-/
import Derived.Test.YtplbdlgmjehckabMem
import Derived.Test.YtplbdlgmjehckabShLoc2
import Derived.Test.YtplbdlgmjehckabStr
import Derived.Deep.DeepCutAuto
import Derived.Deep.CutBlock
import Derived.Deep.Light
import Derived.IntWalk
namespace Go.Proofs.Ytplbdlgmjehckab
open Go.RowKit
set_option linter.unusedVariables false
set_option linter.unusedSimpArgs false

/-- the reader, in block b -/
def SdAt (w : World) (b : Nat) (s : B) (at_ : Nat) : Prop :=
  w.heap[b]? = some (.cells #[.string (str s), .int .i64 (at_ : Int)] 49 (0, 0)) ∧ at_ ≤ s.length ∧ s.length ≤ 4000

def soops (f : Flt) : Value := .iface 67 (.agg #[.int .i64 (f.err : Int), .int .i64 (f.pos : Int)])
@[reducible] def sthrown (f : Flt) : Ending := .panicked [{ v := soops f, recovered := false }]

section
variable {w w' : World} {b : Nat} {s : B} {a : Nat}
theorem SdAt.kept {S : Nat → Prop} (h : SdAt w b s a) (hk : Kept S w w') (hs : ¬ S b) : SdAt w' b s a := ⟨hk.heap hs h.1, h.2⟩
theorem SdAt.quiet (h : SdAt w b s a) (hk : Qt w w') : SdAt w' b s a := h.kept (S := fun _ => False) (hk.kept _) id
theorem SdAt.drewN (h : SdAt w b s a) (n : Nat) : SdAt (w.drewN n) b s a := h
theorem SdAt.drew (h : SdAt w b s a) : SdAt w.drew b s a := h
theorem SdAt.alloc (h : SdAt w b s a) (o : Obj) : SdAt (w.alloc o) b s a := ⟨oldIn h.1 o, h.2⟩
theorem SdAt.set (h : SdAt w b s a) {x : Int} {a' : Nat} (hx : x = (a' : Int)) (hl : a' ≤ s.length) : SdAt (w.setCell ⟨b, 1, none⟩ (.int .i64 x)) b s a' := by
  refine ⟨?_, hl, h.2.2⟩
  subst hx
  have := setIn h.1 1 (.int .i64 (a' : Int))
  simpa using this
theorem SdAt.other (h : SdAt w b s a) {p : Addr} {x : Value} (hp : b ≠ p.block) : SdAt (w.setCell p x) b s a := ⟨otherIn h.1 p x hp, h.2⟩
theorem SdAt.c0 (h : SdAt w b s a) : w.cell? ⟨b, 0, none⟩ = some (.string (str s)) := cellIn h.1 0 rfl
theorem SdAt.c1 (h : SdAt w b s a) : w.cell? ⟨b, 1, none⟩ = some (.int .i64 (a : Int)) := cellIn h.1 1 rfl
theorem SdAt.free (h : SdAt w b s a) (k : Nat) : w.frozen? ⟨b, k, none⟩ = false := freeIn h.1 k
theorem SdAt.lt (h : SdAt w b s a) : b < w.heap.size := ltIn h.1
end

/-- a reading: it throws what is wrong, or it hands back what is read -/
def SSum {α : Type} (X : Ans (α × B × Nat)) (w : World) (b : Nat) (s : B) (R : World → α → Ending → Prop) (e : Ending) (w' : World) : Prop :=
  (∃ f, e = sthrown f ∧ Kept (· = b) w w' ∧ Hid (X = .bad f)) ∨ (∃ v at', R w' v e ∧ Kept (· = b) w w' ∧ SdAt w' b s at' ∧ Hid (X = .ok (v, s.drop at', at')))

set_option maxHeartbeats 400000 in
theorem sfail_any (err : Nat) (w : World) (b : Nat) (s : B) (at_ : Nat) (h : SdAt w b s at_) :
    Calls Try.prog 21 #[.pointer (some ⟨b, 0, none⟩), .int .i64 (err : Int)] w fun e w' => e = sthrown ⟨err, at_⟩ ∧ Qt w w' := by
  have h1 := h.c1
  clear h
  go_enter Try.func21, Try.ntmps21
  go_wp2
  exact ⟨rfl, rfl, 0, rfl⟩

set_option maxHeartbeats 400000 in
theorem sis_any (word : B) (w : World) (b : Nat) (s : B) (at_ : Nat) (h : SdAt w b s at_) :
    Calls Try.prog 47 #[.pointer (some ⟨b, 0, none⟩), .string (str word)] w fun e w' => e = .returned (.bool (word.isPrefixOf (s.drop at_))) ∧ ∃ n, w' = w.drewN n := by
  have h0 := h.c0
  have h1 := h.c1
  have hl := h.2.1
  have hm := h.2.2
  clear h
  go_enter Try.func47, Try.ntmps47
  go_wp2
  go_quiet ((go_at_call 58; refine Calls.quiet_of_same (hasPrefix_any _ _ _)))
  go_wp2
  go_ret
  exact ⟨rfl, _, rfl⟩

theorem sis_is (r : Bool) (word : B) (w : World) (b : Nat) (s : B) (at_ : Nat) (h : SdAt w b s at_) (hr : word.isPrefixOf (s.drop at_) = r) :
    Calls Try.prog 47 #[.pointer (some ⟨b, 0, none⟩), .string (str word)] w fun e w' => e = .returned (.bool r) ∧ ∃ n, w' = w.drewN n := by
  have := sis_any word w b s at_ h; rw [hr] at this; exact this

set_option maxHeartbeats 400000 in
theorem seat_no (word : B) (w : World) (b : Nat) (s : B) (at_ : Nat) (h : SdAt w b s at_) (hp : word.isPrefixOf (s.drop at_) = false) :
    Calls Try.prog 32 #[.pointer (some ⟨b, 0, none⟩), .string (str word)] w fun e w' => e = .returned (.bool false) ∧ ∃ n, w' = w.drewN n := by
  have H := Lib.hid h
  have HP := Lib.hid hp
  clear h hp
  go_enter Try.func32, Try.ntmps32
  go_wp2_with fail
  refine (sis_is false word _ _ _ _ H.out HP.out).mono ?_
  rintro e w1 ⟨rfl, n1, rfl⟩
  go_wp2_with fail
  go_ret
  exact ⟨rfl, _, rfl⟩

set_option maxHeartbeats 400000 in
theorem seat_yes (word : B) (w : World) (b : Nat) (s : B) (at_ : Nat) (h : SdAt w b s at_) (hp : word.isPrefixOf (s.drop at_) = true) :
    Calls Try.prog 32 #[.pointer (some ⟨b, 0, none⟩), .string (str word)] w fun e w' => e = .returned (.bool true) ∧ Kept (· = b) w w' ∧ SdAt w' b s (at_ + word.length) := by
  have H := Lib.hid h
  have HP := Lib.hid hp
  have hl : at_ + word.length ≤ s.length := by
    have := (List.isPrefixOf_iff_prefix.1 hp).length_le
    simp only [List.length_drop] at this
    have := h.2.1
    by_cases hw : word = []
    · subst hw; simpa using h.2.1
    · have : 0 < word.length := List.length_pos_iff.2 hw
      omega
  have hm := h.2.2
  clear h hp
  go_enter Try.func32, Try.ntmps32
  go_wp2_with fail
  refine (sis_is true word _ _ _ _ H.out HP.out).mono ?_
  rintro e w1 ⟨rfl, n1, rfl⟩
  have H1 := Lib.hid (H.out.drewN n1)
  have c1 := (H.out.drewN n1).c1
  have f1 := (H.out.drewN n1).free 1
  go_wp2_with fail
  go_ret
  exact ⟨rfl, ((Kept.refl (· = b) w).drewN n1).setCell (p := ⟨b, 1, none⟩) (.inl rfl) _, H1.out.set (by omega) hl⟩

set_option maxHeartbeats 400000 in
theorem smust_bad (word : B) (w : World) (b : Nat) (s : B) (at_ : Nat) (h : SdAt w b s at_) (hp : word.isPrefixOf (s.drop at_) = false) :
    Calls Try.prog 34 #[.pointer (some ⟨b, 0, none⟩), .string (str word)] w fun e w' => e = sthrown ⟨2, at_⟩ ∧ Qt w w' := by
  have H := Lib.hid h
  have HP := Lib.hid hp
  clear h hp
  go_enter Try.func34, Try.ntmps34
  go_wp2_with fail
  refine (seat_no word _ _ _ _ H.out HP.out).mono ?_
  rintro e w1 ⟨rfl, n1, rfl⟩
  have H1 := Lib.hid (H.out.drewN n1)
  go_wp2_with fail
  refine (sfail_any 2 _ _ _ _ H1.out).mono ?_
  rintro e w2 ⟨rfl, hq2⟩
  have HQ := Lib.hid (Qt.trans ⟨n1, rfl⟩ hq2)
  clear hq2
  go_wp2_with fail
  exact ⟨rfl, rfl, HQ.out⟩

set_option maxHeartbeats 400000 in
theorem smust_ok (word : B) (w : World) (b : Nat) (s : B) (at_ : Nat) (h : SdAt w b s at_) (hp : word.isPrefixOf (s.drop at_) = true) :
    Calls Try.prog 34 #[.pointer (some ⟨b, 0, none⟩), .string (str word)] w fun e w' => e = .returned (.tuple #[]) ∧ Kept (· = b) w w' ∧ SdAt w' b s (at_ + word.length) := by
  have H := Lib.hid h
  have HP := Lib.hid hp
  clear h hp
  go_enter Try.func34, Try.ntmps34
  go_wp2_with fail
  refine (seat_yes word _ _ _ _ H.out HP.out).mono ?_
  rintro e w1 ⟨rfl, hk, hr⟩
  have HK := Lib.hid hk
  have HR := Lib.hid hr
  clear hk hr
  go_wp2_with fail
  go_end0
  exact ⟨rfl, HK.out, HR.out⟩

/-- what must stand here: it throws, or goes on -/
theorem smust_sum (word : B) (w : World) (b : Nat) (s : B) (at_ : Nat) (h : SdAt w b s at_) :
    Calls Try.prog 34 #[.pointer (some ⟨b, 0, none⟩), .string (str word)] w fun e w' =>
      (∃ f, e = sthrown f ∧ Kept (· = b) w w' ∧ Hid (pMust word (s.drop at_) at_ = .bad f)) ∨ (∃ at', e = .returned (.tuple #[]) ∧ Kept (· = b) w w' ∧ SdAt w' b s at' ∧ Hid (pMust word (s.drop at_) at_ = .ok (s.drop at', at'))) := by
  cases hp : word.isPrefixOf (s.drop at_) with
  | false => exact (smust_bad word w b s at_ h hp).mono fun e w' ⟨h1, h2⟩ => .inl ⟨_, h1, h2.kept _, Lib.hid (by unfold pMust; rw [hp]; rfl)⟩
  | true => exact (smust_ok word w b s at_ h hp).mono fun e w' ⟨h1, h2, h3⟩ => .inr ⟨_, h1, h2, h3, Lib.hid (by unfold pMust; rw [if_pos hp, List.drop_drop])⟩

/-! ### gaps -/
theorem gap_stop_eq {s : B} {a : Nat} {c : UInt8} {t : B} (hd : s.drop a = c :: t) (h1 : ((c.toNat : Int) == 32) = false) (h2 : ((c.toNat : Int) == 10) = false) (h3 : gapBegin.isPrefixOf (s.drop a) = false) :
    sGap (s.drop a) a = .ok (s.drop a, a) := by
  rw [hd] at h3 ⊢
  rw [gap_cons, if_neg (by simp at h1 h2; omega), if_neg (by rw [h3]; simp)]

set_option maxRecDepth 100000 in
set_option maxHeartbeats 1600000 in
theorem sblank_sum (w : World) (b : Nat) (s : B) (at_ : Nat) (m : Int) (h : SdAt w b s at_) (hm : w.cell? ⟨0, 0, none⟩ = some (.int .i64 m)) (hb0 : 0 < b) :
    Calls Try.prog 31 #[.pointer (some ⟨b, 0, none⟩)] w fun e w' =>
      (∃ f, e = sthrown f ∧ Kept (· = b) w w' ∧ Hid (sGap (s.drop at_) at_ = .bad f)) ∨ (∃ at', e = .returned (.bool (decide (at_ < at'))) ∧ Kept (· = b) w w' ∧ SdAt w' b s at' ∧ Hid (sGap (s.drop at_) at_ = .ok (s.drop at', at'))) := by
  obtain ⟨r, HR⟩ : ∃ r, Hid (sGap (s.drop at_) at_ = r) := ⟨_, rfl⟩
  rw [HR.out]
  have H := Lib.hid h
  have HM := Lib.hid hm
  have c1 := h.c1
  have hl := h.2.1
  have hmx := h.2.2
  clear h hm
  go_enter Try.func31, Try.ntmps31
  go_wp2_with fail
  clear c1
  go_loopg [] (s.length - at_) (fun k wr => ∃ at', SdAt wr b s at' ∧ at_ ≤ at' ∧ Hid (Kept (· = b) w wr) ∧ Hid (sGap (s.drop at') at' = r) ∧ k = s.length - at')
  case atStart => exact ⟨at_, H.out, Nat.le_refl _, Lib.hid (Kept.refl _ _), HR, rfl⟩
  case round =>
    obtain ⟨at', hsd, hle, HK, HG, hk⟩ := hrel
    have HS := Lib.hid hsd
    have c0 := hsd.c0
    have c1 := hsd.c1
    have f1 := hsd.free 1
    have hl' := hsd.2.1
    clear hsd
    have hk0 : Hid (Kept (· = b) w wr.drew) := Lib.hid HK.out.drew
    by_cases hlt : at' < s.length
    · have hd := List.drop_eq_getElem_cons hlt
      have hG := HG.out
      rw [hd, gap_cons, ← hd] at hG
      have HD := Lib.hid hd
      clear hd
      cases e1 : (((s[at']'hlt).toNat : Int) == 32) with
      | true =>
        rw [if_pos (.inl (by simp at e1; omega))] at hG
        have HGN := Lib.hid hG
        clear hG
        have e2 : ∀ x : Bool, ((((s[at']'hlt).toNat : Int) == 32) || x) = true := fun x => by rw [e1]; rfl
        go_wp2_with fail
        go_quiet (fail)
        go_wp2_with fail
        go_quiet (fail)
        go_wp2_with fail
        go_roundg (s.length - (at' + 1))
        case measure => omega
        case rel => exact ⟨at' + 1, ((HS.out.drewN _).set (by omega) (by omega)), by omega, Lib.hid ((HK.out.drewN _).setCell (p := ⟨b, 1, none⟩) (.inl rfl) _), HGN, rfl⟩
      | false =>
        cases e2 : (((s[at']'hlt).toNat : Int) == 10) with
        | true =>
          rw [if_pos (.inr (by simp at e2; omega))] at hG
          have HGN := Lib.hid hG
          clear hG
          go_wp2_with fail
          go_quiet (fail)
          go_wp2_with fail
          go_quiet (fail)
          go_wp2_with fail
          go_roundg (s.length - (at' + 1))
          case measure => omega
          case rel => exact ⟨at' + 1, ((HS.out.drewN _).set (by omega) (by omega)), by omega, Lib.hid ((HK.out.drewN _).setCell (p := ⟨b, 1, none⟩) (.inl rfl) _), HGN, rfl⟩
        | false =>
          rw [if_neg (by simp at e1 e2; omega)] at hG
          have HGN := Lib.hid hG
          clear hG
          go_wp2_with fail
          go_quiet (fail)
          go_wp2_with fail
          go_quiet (fail)
          go_wp2_with fail
          cases hp : gapBegin.isPrefixOf (s.drop at') with
          | false =>
            refine (sis_is false gapBegin _ _ _ _ (HS.out.drewN _) hp).mono ?_
            rintro e w1 ⟨rfl, n1, rfl⟩
            have hgt : decide ((at_ : Int) < (at' : Int)) = decide (at_ < at') := by rw [Bool.eq_iff_iff]; simp
            have hR : Hid (r = .ok (s.drop at', at')) := Lib.hid (by have := HGN.out; rw [hp] at this; exact this.symm)
            clear hp
            go_wp2_with fail
            go_ret
            exact .inr ⟨at', rfl, HK.out.drewN _, HS.out.drewN _, hR⟩
          | true =>
            have HP := Lib.hid hp
            have hp2 : at' + 2 ≤ s.length := by
              have := (List.isPrefixOf_iff_prefix.1 hp).length_le
              rw [List.length_drop] at this
              simp only [gapBegin, List.length_cons, List.length_nil] at this
              omega
            have hG := HGN.out
            rw [hp, if_pos rfl, List.drop_drop] at hG
            have HGM := Lib.hid hG
            refine (sis_is true gapBegin _ _ _ _ (HS.out.drewN _) hp).mono ?_
            rintro e w1 ⟨rfl, hw1⟩
            have hq1 : Qt wr w1 := Qt.trans ⟨_, rfl⟩ hw1
            have HS1 := Lib.hid (HS.out.quiet hq1)
            have HK1 := Lib.hid (HK.out.trans (hq1.kept _))
            clear c0 c1 f1 hw1
            have c0 := HS1.out.c0
            have c1 := HS1.out.c1
            have f1 := HS1.out.free 1
            have hlen : (s.drop (at' + 2)).length < 4294967281 := by rw [List.length_drop]; omega
            have hmr : w1.cell? ⟨0, 0, none⟩ = some (.int .i64 m) := HK1.out.cell (by show ¬ (0 = b); omega) HM.out
            have HMR := Lib.hid hmr
            clear hp hmr hG hq1
            cases hf : findSub gapEnd (s.drop (at' + 2)) with
            | none =>
              have hR : Hid (r = .bad ⟨2, at'⟩) := Lib.hid (by have := HGM.out; rw [hf] at this; exact this.symm)
              go_wp2_with fail
              go_quiet ((go_at_call 48; exact Calls.quiet_of_same (index_none _ gapEnd m _ hlen HMR.out hf)))
              clear hf
              go_wp2_with fail
              refine (sfail_any 2 _ _ _ _ (HS1.out.drewN _)).mono ?_
              rintro e w2 ⟨rfl, hq2⟩
              go_wp2_with fail
              exact ⟨rfl, .inl ⟨_, rfl, (HK1.out.drewN _).trans (hq2.kept _), hR⟩⟩
            | some e =>
              have hfl := findSub_le _ _ _ hf
              rw [List.length_drop] at hfl
              have hsl : gapEnd.length = 2 := rfl
              rw [hsl] at hfl
              have hGE : Hid (sGap (s.drop (at' + (2 + e + 2))) (at' + (2 + e + 2)) = r) := Lib.hid (by have := HGM.out; rw [hf] at this; simp only [List.drop_drop] at this; exact this)
              go_wp2_with fail
              go_quiet ((go_at_call 48; exact Calls.quiet_of_same (index_some _ gapEnd m _ hlen HMR.out hf)))
              clear hf
              go_wp2_with fail
              go_roundg (s.length - (at' + (2 + e + 2)))
              case measure => omega
              case rel => exact ⟨at' + (2 + e + 2), (HS1.out.drewN _).set (by omega) (by omega), by omega, Lib.hid ((HK1.out.drewN _).setCell (p := ⟨b, 1, none⟩) (.inl rfl) _), hGE, rfl⟩
    · have e3 : decide ((at' : Int) < (s.length : Int)) = false := by simp; omega
      have hnil : Hid (s.drop at' = []) := Lib.hid (List.drop_eq_nil_of_le (by omega))
      have hG := HG.out
      rw [hnil.out] at hG
      have hR : Hid (r = .ok (s.drop at', at')) := Lib.hid (by rw [hnil.out]; exact hG.symm)
      have hgt : decide ((at_ : Int) < (at' : Int)) = decide (at_ < at') := by rw [Bool.eq_iff_iff]; simp
      clear hG
      go_wp2_with fail
      go_quiet (fail)
      go_wp2_with fail
      go_ret
      exact .inr ⟨at', rfl, HK.out.drewN _, HS.out.drewN _, hR⟩

end Go.Proofs.Ytplbdlgmjehckab
