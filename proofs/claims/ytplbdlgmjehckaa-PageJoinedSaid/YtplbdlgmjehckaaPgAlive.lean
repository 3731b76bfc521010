/-
  inklaw1.alive.
-/
import Derived.Test.YtplbdlgmjehckaaPgGet
namespace Go.Proofs.Ytplbdlgmjehckaa
open Go.RowKit
set_option linter.unusedVariables false
set_option linter.unusedSimpArgs false

def aliveText : B := [60, 112, 32, 99, 108, 97, 115, 115, 61, 34, 97, 32, 98, 34, 62, 120, 60, 98, 62, 121, 60, 47, 98, 62, 60, 105, 62, 122, 60, 47, 105, 62, 60, 47, 112, 62]
def aliveNodes : List PNode := [⟨[112], -1, [⟨[99, 108, 97, 115, 115], [97, 32, 98], 2, 14⟩], 2, 0, 0⟩, ⟨[98], 0, [], 18, 0, 0⟩, ⟨[105], 0, [], 26, 0, 0⟩]
theorem alive_parse : pParse aliveText = .ok aliveNodes := by decide +kernel
def aliveNode : PNode := ⟨[], 0, [⟨[105, 100], [113], 0, 0⟩], 0, 0, 0⟩
theorem alive_get : pGet aliveNode.attrs [105, 100] = ([113], true) := by decide
theorem alive_named : named [97, 45, 49] = true := by decide
theorem alive_ahead : pAhead aliveNodes 2 = 1 := by decide

theorem parse_ok (s : B) (ns : List PNode) (hp : pParse s = .ok ns) (w : World) (m : Int) (hm : w.cell? ⟨0, 0, none⟩ = some (.int .i64 m)) (hs : s.length ≤ 9223372036854775807) :
    Calls Try.prog 8 #[.string (str s)] w fun e w' => ∃ a cap, e = .returned (.tuple #[.slice a ns.length cap, .agg #[.int .i64 0, .int .i64 0]]) ∧ Below w.heap.size w w' ∧ NodesAt w' (.slice a ns.length cap) ns :=
  (parse_any s w m hm hs).mono fun e w' hh => by
    rw [hp] at hh
    obtain ⟨v, rfl, hb, hn⟩ := hh
    obtain ⟨a, cap, rfl, _⟩ := hn.form
    exact ⟨a, cap, rfl, hb, hn⟩
theorem parse_bad (s : B) (f : Flt) (hp : pParse s = .bad f) (w : World) (m : Int) (hm : w.cell? ⟨0, 0, none⟩ = some (.int .i64 m)) (hs : s.length ≤ 9223372036854775807) :
    Calls Try.prog 8 #[.string (str s)] w fun e w' => e = .returned (.tuple #[.slice none 0 0, .agg #[.int .i64 (f.err : Int), .int .i64 (f.pos : Int)]]) ∧ Below w.heap.size w w' :=
  (parse_any s w m hm hs).mono fun e w' hh => by rw [hp] at hh; exact hh
theorem get_is (al : List PAttr) (nm : B) (x : B) (y : Bool) (hp : pGet al nm = (x, y)) (w : World) (v : Value) (name : B) (parent nameEnd inF inT : Int) (hv : AttrsAt w v al) :
    Calls Try.prog 15 #[.agg #[.string (str name), .int .i64 parent, v, .int .i64 nameEnd, .int .i64 inF, .int .i64 inT], .string (str nm)] w fun e w' => e = .returned (.tuple #[.string (str x), .bool y]) ∧ Below w.heap.size w w' :=
  (get_any w v ⟨name, parent, al, nameEnd, inF, inT⟩ nm hv).mono fun e w' hh => by
    unfold GetEnds at hh; simp only [hp] at hh; exact hh
theorem named_is (s : B) (x : Bool) (hp : named s = x) (w : World) : Calls Try.prog 11 #[.string (str s)] w fun e w' => e = .returned (.bool x) ∧ w' = w :=
  (named_any w s).mono fun e w' hh => by rw [hp] at hh; exact hh
theorem ahead_is (ns : List PNode) (k x : Int) (hp : pAhead ns k = x) (w : World) (v : Value) (hv : NodesAt w v ns) (hk : -9223372036854775808 ≤ k ∧ k ≤ 9223372036854775807) :
    Calls Try.prog 13 #[v, .int .i64 k] w fun e w' => e = .returned (.int .i64 x) ∧ ∃ n, w' = w.drewN n :=
  (ahead_any w v ns k hv hk).mono fun e w' hh => by rw [hp] at hh; exact hh

set_option maxHeartbeats 1600000 in
theorem alive_any (w : World) (m : Int) (hm : w.cell? ⟨0, 0, none⟩ = some (.int .i64 m)) :
    Calls Try.prog 17 #[] w fun e w' => e = .returned (.bool true) ∧ Below w.heap.size w w' := by
  go_enter Try.func17, Try.ntmps17
  go_wp2_with (go_at_call 8; refine (parse_ok aliveText aliveNodes alive_parse _ m hm (by decide)).mono ?_; rintro e w1 ⟨a, cap, rfl, hb1, hn1⟩)
  have hlen : aliveNodes.length = 3 := rfl
  rw [hlen] at hn1 ⊢
  have ha : AttrsAt ((w1.alloc (.cells #[.int .i64 0, .int .i64 0] 25)).alloc (.cells #[.string ⟨#[105, 100]⟩, .string ⟨#[113]⟩, .int .i64 0, .int .i64 0] 41)) (.slice (some ⟨w1.heap.size + 1, 0, none⟩) 1 1) aliveNode.attrs := by
    refine ⟨_, 1, rfl, Nat.le_refl _, by decide, fun _ => ⟨_, 0, rfl, ?_⟩⟩
    intro i r hr j c hc
    cases i with
    | zero =>
      cases hr
      have := newIn (w1.alloc (.cells #[.int .i64 0, .int .i64 0] 25)) (.cells #[.string ⟨#[105, 100]⟩, .string ⟨#[113]⟩, .int .i64 0, .int .i64 0] 41)
      simp only [show (w1.alloc (.cells #[.int .i64 0, .int .i64 0] 25)).heap.size = w1.heap.size + 1 from by simp] at this
      rw [cell_of_row _ _ _ _ _ _ this]
      simp only [Nat.zero_mul, Nat.add_zero, Nat.zero_add]
      simpa [attrCells, str] using hc
    | succ i => simp [aliveNode] at hr
  have hf : ((w1.alloc (.cells #[.int .i64 0, .int .i64 0] 25)).alloc (.cells #[.string ⟨#[105, 100]⟩, .string ⟨#[113]⟩, .int .i64 0, .int .i64 0] 41)).heap[w1.heap.size]? = some (.cells #[.int .i64 0, .int .i64 0] 25 (0, 0)) := oldIn (newIn w1 _) _
  have hb2 : Below w1.heap.size w1 ((w1.alloc (.cells #[.int .i64 0, .int .i64 0] 25)).alloc (.cells #[.string ⟨#[105, 100]⟩, .string ⟨#[113]⟩, .int .i64 0, .int .i64 0] 41)) := (((Kept.refl (fun _ => False) w1).alloc _).alloc _).below
  refine (get_is aliveNode.attrs [105, 100] [113] true alive_get _ (.slice (some ⟨w1.heap.size + 1, 0, none⟩) 1 1) [] 0 0 0 0 ha).mono ?_
  rintro e w2 ⟨rfl, hb3⟩
  have hn2 := (hn1.kept hb2).kept hb3
  have hf2 := (Kept.of_below (S := fun _ => False) hb3).heap id hf
  have hbb := (hb1.trans (hb2.mono hb1.size)).trans (hb3.mono (Nat.le_trans hb1.size hb2.size))
  have f0 : w2.cell? ⟨w1.heap.size, 0, none⟩ = some (.int .i64 0) := cellIn hf2 0 rfl
  obtain ⟨b, off, av, rfl, g0, g1, g2, g3, g4, g5, hav⟩ := hn2.at (k := 2) (x := ⟨[105], 0, [], 26, 0, 0⟩) rfl
  have HN := Lib.hid hn2
  have HB := Lib.hid hbb
  clear hn1 hb1 ha hf hb2 hb3 hn2 hf2 hbb g0 g2 g3 g4 g5 hav
  go_wp2_with fail
  refine (ahead_is aliveNodes 2 1 alive_ahead _ _ HN.out (by decide)).mono ?_
  rintro e w3 ⟨rfl, nq, rfl⟩
  go_wp2_with (go_at_call 11; refine (named_is [97, 45, 49] true alive_named _).mono ?_; rintro e w4 ⟨rfl, rfl⟩)
  go_ret
  exact ⟨rfl, below_drewN HB.out _⟩

end Go.Proofs.Ytplbdlgmjehckaa
