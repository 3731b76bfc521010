/-
  Proved here: 'inktop.Names' answers true: each constant has its value. No condition.
-/
import Derived.Test.YtplbdlgmjehckaaKit
import Derived.WalkKit
import Derived.WalkSpells
import Derived.WalkLawsBesides
import Derived.BigQuiet
namespace Go.Proofs.Ytplbdlgmjehckaa
open Go.RowKit Go.ChangeShapes Go.WideShapes Go.ChangeAt

theorem cellNew (w : World) (cs : Array Value) (t : TypeId) (k : Nat) (v : Value) (h : cs[k]? = some v) :
    (w.alloc (.cells cs t)).cell? ⟨w.heap.size, k, none⟩ = some v := by
  rw [cell_of_row (w.alloc (.cells cs t)) w.heap.size k cs t (0, 0) (heap_alloc_new w _)]; exact h

theorem c1 (k : Nat) (h : k < 8) : (#[Value.int IntKind.i64 0, Value.int IntKind.i64 1, Value.int IntKind.i64 2, Value.int IntKind.i64 3,
      Value.int IntKind.i64 4, Value.int IntKind.i64 5, Value.int IntKind.i64 6, Value.int IntKind.i64 7])[k]? = some (.int .i64 k) := by
  rcases k with _ | _ | _ | _ | _ | _ | _ | _ | _ <;> first | rfl | omega

def tab (k : Nat) : Int := [6000, 120, 20, 8, 20, 1, 2, 3, 4, 5, 6, 0, 1, 2, 3, 4000, 60, 8, 6, 6, 20, 60].getD k 0
def tabV : Array Value := #[Value.int IntKind.i64 6000, Value.int IntKind.i64 120, Value.int IntKind.i64 20, Value.int IntKind.i64 8,
          Value.int IntKind.i64 20, Value.int IntKind.i64 1, Value.int IntKind.i64 2, Value.int IntKind.i64 3,
          Value.int IntKind.i64 4, Value.int IntKind.i64 5, Value.int IntKind.i64 6, Value.int IntKind.i64 0,
          Value.int IntKind.i64 1, Value.int IntKind.i64 2, Value.int IntKind.i64 3, Value.int IntKind.i64 4000,
          Value.int IntKind.i64 60, Value.int IntKind.i64 8, Value.int IntKind.i64 6, Value.int IntKind.i64 6,
          Value.int IntKind.i64 20, Value.int IntKind.i64 60]
theorem c2 (k : Nat) (h : k < 22) : tabV[k]? = some (.int .i64 (tab k)) := by
  rcases k with _ | _ | _ | _ | _ | _ | _ | _ | _ | _ | _ | _ | _ | _ | _ | _ | _ | _ | _ | _ | _ | _ | _ <;> first | rfl | omega

theorem cellMid (w : World) (o1 o3 : Obj) (cs : Array Value) (t : TypeId) (k : Nat) (v : Value) (h : cs[k]? = some v) :
    (((w.alloc o1).alloc (.cells cs t)).alloc o3).cell? ⟨w.heap.size + 1, k, none⟩ = some v := by
  have e : w.heap.size + 1 = (w.alloc o1).heap.size := by simp
  rw [e, World.cell?_alloc_past _ _ _ (by simp)]
  exact cellNew (w.alloc o1) cs t k v h
theorem cellTop (w : World) (o1 o2 : Obj) (cs : Array Value) (t : TypeId) (k : Nat) (v : Value) (h : cs[k]? = some v) :
    (((w.alloc o1).alloc o2).alloc (.cells cs t)).cell? ⟨w.heap.size + 1 + 1, k, none⟩ = some v := by
  have e : w.heap.size + 1 + 1 = ((w.alloc o1).alloc o2).heap.size := by simp
  rw [e]
  exact cellNew ((w.alloc o1).alloc o2) cs t k v h
theorem below3 (w : World) (o1 o2 o3 : Obj) : Below w.heap.size w (((w.alloc o1).alloc o2).alloc o3) :=
  (((Below.refl _ _).alloc (Nat.le_refl _) _).alloc (by simp) _).alloc (by simp; omega) _
theorem size3 (w : World) (o1 o2 o3 : Obj) : w.heap.size + 1 + 1 < (((w.alloc o1).alloc o2).alloc o3).heap.size := by simp
theorem both3 (w : World) (o1 : Obj) : ∀ j, j < 22 → ∃ n : Int,
    (((w.alloc o1).alloc (.cells tabV 3)).alloc (.cells tabV 3)).cell? ⟨w.heap.size + 1, j, none⟩ = some (.int .i64 n) ∧
    (((w.alloc o1).alloc (.cells tabV 3)).alloc (.cells tabV 3)).cell? ⟨w.heap.size + 1 + 1, j, none⟩ = some (.int .i64 n) :=
  fun j hj => ⟨tab j, cellMid w o1 _ tabV 3 j _ (c2 j hj), cellTop w o1 _ tabV 3 j _ (c2 j hj)⟩

set_option maxHeartbeats 400000 in
theorem names_any (w : World) :
    Calls Try.prog 7 #[] w fun e w' => e = .returned (.bool true) ∧ Below w.heap.size w w' := by
  go_enter Try.func7, Try.ntmps7
  go_wp2
  go_loop [10] (fun i => ∃ k : Nat, k ≤ 8 ∧ i = .int .i64 k) (fun i => 8 - (intOf i).toNat)
  case atStart => exact ⟨0, by omega, rfl⟩
  case round =>
    obtain ⟨k, hk, rfl⟩ := hrel
    by_cases hlt : k < 8
    · have hcell := cellNew w _ 23 k _ (c1 k hlt)
      have hne : (!((k : Int) == (k : Int))) = false := by simp
      go_wp2
      go_round
      case rel => exact ⟨k + 1, by omega, by go_num⟩
      case measure => simp [intOf]; omega
    · go_wp2
      have hC := both3 w (.cells #[Value.int IntKind.i64 0, Value.int IntKind.i64 1, Value.int IntKind.i64 2, Value.int IntKind.i64 3,
      Value.int IntKind.i64 4, Value.int IntKind.i64 5, Value.int IntKind.i64 6, Value.int IntKind.i64 7] 23)
      have hB := below3 w (.cells #[Value.int IntKind.i64 0, Value.int IntKind.i64 1, Value.int IntKind.i64 2, Value.int IntKind.i64 3,
      Value.int IntKind.i64 4, Value.int IntKind.i64 5, Value.int IntKind.i64 6, Value.int IntKind.i64 7] 23) (.cells tabV 3) (.cells tabV 3)
      unfold tabV at hC hB
      have hs3 := size3 w (.cells #[Value.int IntKind.i64 0, Value.int IntKind.i64 1, Value.int IntKind.i64 2, Value.int IntKind.i64 3,
      Value.int IntKind.i64 4, Value.int IntKind.i64 5, Value.int IntKind.i64 6, Value.int IntKind.i64 7] 23) (.cells tabV 3) (.cells tabV 3)
      unfold tabV at hs3
      revert hC hB hs3
      generalize (World.alloc (World.alloc (World.alloc _ _) _) _ : World) = w3
      intro hC hB hs3
      go_loopw [23] (fun i wr => ∃ k : Nat, k ≤ 22 ∧ i = .int .i64 k ∧ Below w3.heap.size w3 wr) (fun i _ => 22 - (intOf i).toNat)
      case atStart => exact ⟨0, by omega, rfl, Below.refl _ _⟩
      case round =>
        obtain ⟨j, hj, rfl, hb⟩ := hrel
        by_cases hlt : j < 22
        · obtain ⟨n, hn1, hn2⟩ := hC j hlt
          rw [← hb.cell (p := ⟨w.heap.size + 1, j, none⟩) (by simp; omega)] at hn1
          rw [← hb.cell (p := ⟨w.heap.size + 1 + 1, j, none⟩) (by simp; omega)] at hn2
          have hne : (!(n == n)) = false := by simp
          go_wp2
          go_quiet (fail)
          go_wp2
          go_roundw
          case rel => exact ⟨j + 1, by omega, by go_num, below_drewN hb _⟩
          case measure => simp [intOf]; omega
        · go_wp2
          go_ret
          exact ⟨rfl, hB.trans (hb.mono (by omega))⟩

theorem own : ownKnob Try.prog.godebug = none := by kernel_rfl
theorem laidOut : laidOutB Try.prog = true := by kernel_rfl

set_option maxRecDepth 100000 in
theorem names_lifted (os : Os) (started : os.Started) (H : Type) (enc : TypeId × Value → H) :
    ReturnsInHanded {} Try.checked os 7 .any (Rows.namesSpec.pre6 enc Try.prog Try.f7 Rows.namesRow.domain false) (Rows.namesSpec.post enc Try.prog Try.f7 false true false false) := by
  refine returnsInHanded_of_change (C := Try.checked) own started (by kernel_rfl) Try.func7
    (ChangeSpec.witness6 (enc := enc) (C := Try.checked) false ⟨#[], #[], []⟩ 8 (by kernel_rfl) (by kernel_rfl) (by kernel_rfl) (by kernel_rfl)) ?_
  intro W base args ds gs before hval0 hW hcnd _
  have hW' := hW
  obtain ⟨p, q, hA0, hV, rfl, hfz, hnd⟩ := hW
  have hA : DataW.TrodAll enc Try.prog W 0 (fun _ => true) true Try.f7.params.toList args.toList ds p := hA0
  rw [Try.params7] at hA
  obtain ⟨rfl, rfl, rfl⟩ := trodAll_none hA
  obtain ⟨rfl, rfl⟩ := trodVars_none hV
  refine (names_any W).mono fun e W' ⟨he, hb⟩ => ?_
  subst he
  exact ⟨_, rfl, law_post laidOut Try.underlying4 rfl (by rw [Try.params7]; decide) rfl hW' rfl rfl rfl hb⟩

theorem names_holds : Rows.NamesSaid :=
  OpenClaim.holds_of_wide 7 Try.f7 rfl rfl rfl rfl rfl rfl rfl ⟨rfl, rfl, rfl, rfl, rfl⟩ rfl rfl rfl rfl rfl (by kernel_rfl) Try.func7 (by kernel_rfl)
    (of_decide_eq_true (by kernel_rfl)) (by unfold Func.isWrapper; first | (rw [if_pos (by decide +kernel)]; kernel_rfl) | (rw [if_neg (by decide +kernel)]; exact ⟨rfl, rfl⟩))
    (fun os started H enc _ => names_lifted os started H enc)
#print axioms names_holds
end Go.Proofs.Ytplbdlgmjehckaa
