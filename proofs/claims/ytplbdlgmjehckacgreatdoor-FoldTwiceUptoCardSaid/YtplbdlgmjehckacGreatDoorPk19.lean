/-
  Lemmas for the claims of this seat: the program's functions walked, and plain laws. In this order: MtOpen.
-/
import Derived.Test.YtplbdlgmjehckacGreatDoorPk18
import Derived.Test.YtplbdlgmjehckacGreatDoorPk16
namespace Go.Proofs.YtplbdlgmjehckacGreatDoor
open Go.RowKit Go.ChangeShapes Go.WideShapes Go.Deep
set_option linter.unusedVariables false
set_option linter.unusedSimpArgs false
def wtAttr (a : PAttr) : Nat := a.name.length + a.val.length + 1
def wtNode (n : PNode) : Nat := (n.attrs.map wtAttr).sum + n.name.length + 1
def wtTest (t : PTest) : Nat := t.name.length + t.val.length + 1
def wtPart (p : PPart) : Nat := (p.tests.map wtTest).sum + 1
def wtSel (s : PSel) : Nat := (s.map wtPart).sum + 1
def wtRule (r : PRule) : Nat := (r.sels.map wtSel).sum + (r.decls.map wtDecl).sum + 1
theorem node_low (n : PNode) : 1 ≤ wtNode n := by unfold wtNode; omega
theorem test_low (n : PTest) : 1 ≤ wtTest n := by unfold wtTest; omega
theorem part_low (n : PPart) : 1 ≤ wtPart n := by unfold wtPart; omega
theorem sel_low (n : PSel) : 1 ≤ wtSel n := by unfold wtSel; omega
theorem nTests_wt (s : PSel) : nTests s ≤ wtSel s := by
  unfold nTests wtSel
  have := sum_le_map (fun p : PPart => p.tests.length) wtPart s s rfl (fun i x y hx hy => by
    rw [hx] at hy; cases hy
    have := sum_len wtTest test_low x.tests
    unfold wtPart
    omega)
  omega
theorem short_of {ns : List PNode} (h : (ns.map wtNode).sum ≤ 1048576) : Short ns := by
  intro n hn a ha
  have h1 := sum_mem wtNode hn
  have h2 := sum_mem wtAttr ha
  have h3 : a.val.length ≤ wtAttr a := by unfold wtAttr; omega
  have h4 : (n.attrs.map wtAttr).sum ≤ wtNode n := by unfold wtNode; omega
  omega
theorem ctx_of {ns : List PNode} (h : (ns.map wtNode).sum ≤ 1048576) (hf : ∀ n ∈ ns, I64 n.parent) : MtCtx ns := by
  have := sum_len wtNode node_low ns
  exact ⟨short_of h, by omega, hf⟩
theorem few_of {r : PRule} (h : wtRule r ≤ 1048576) : FewTests r.sels := by
  unfold wtRule at h
  have := sum_len wtSel sel_low r.sels
  refine ⟨by omega, fun s hs => ?_⟩
  have h1 := sum_mem wtSel hs
  have h2 := nTests_wt s
  omega
section
variable {H : Type} {enc : TypeId × Value → H} {w : World} {spare : Nat → Bool} {held : Bool}
theorem c_span : Tryz.prog.cellsOf 40 = 2 := by kernel_rfl
theorem c_attr : Tryz.prog.cellsOf 47 = 4 := by kernel_rfl
theorem c_node : Tryz.prog.cellsOf 45 = 6 := by kernel_rfl
theorem c_test : Tryz.prog.cellsOf 158 = 3 := by kernel_rfl
theorem c_part : Tryz.prog.cellsOf 156 = 2 := by kernel_rfl
theorem c_sel : Tryz.prog.cellsOf 78 = 1 := by kernel_rfl
theorem c_rule : Tryz.prog.cellsOf 42 = 5 := by kernel_rfl
theorem c_attrs : Tryz.prog.cellsOf 43 = 1 := by kernel_rfl
theorem c_tests : Tryz.prog.cellsOf 154 = 1 := by kernel_rfl
theorem c_sels : Tryz.prog.cellsOf 37 = 1 := by kernel_rfl
theorem c_decls : Tryz.prog.cellsOf 38 = 1 := by kernel_rfl
theorem open_span {n : Nat} {cs : List Value} {y : DataW H × List MemPlace} (h : DataW.trod enc Tryz.prog w 0 spare held n 40 cs = some y) : ∃ lo hi : Int, cs = [.int .i64 lo, .int .i64 hi] ∧ I64 lo ∧ I64 hi := by
  obtain ⟨xs, n', _, rfl, hl, hlen, hf⟩ := DataW.trod_struct Tryz.underlying40 h
  rw [c_span] at hl
  have hlen' : xs.length = 2 := hlen
  obtain ⟨y0, y1, rfl⟩ := len2 hlen'
  obtain ⟨c0, c1, rfl⟩ := len2 hl
  have h0 : DataW.trod enc Tryz.prog w 0 spare held n' 3 [c0] = some y0 := by simpa [c_int] using hf 0 _ rfl
  have h1 : DataW.trod enc Tryz.prog w 0 spare held n' 3 [c1] = some y1 := by simpa [c_int] using hf 1 _ rfl
  obtain ⟨a, e0, rfl, g0⟩ := DataW.trod_int Tryz.underlying3 h0
  obtain ⟨b, e1, rfl, g1⟩ := DataW.trod_int Tryz.underlying3 h1
  simp only [List.cons.injEq, and_true] at e0 e1
  subst e0; subst e1
  exact ⟨a, b, rfl, wf_i64 g0, wf_i64 g1⟩
theorem open_attr {n : Nat} {cs : List Value} {y : DataW H × List MemPlace} (h : DataW.trod enc Tryz.prog w 0 spare held n 47 cs = some y) : ∃ d : PAttr, cs = attrCells d ∧ wtAttr d ≤ bulk y.1 := by
  obtain ⟨xs, n', _, rfl, hl, hlen, hf⟩ := DataW.trod_struct Tryz.underlying47 h
  rw [c_attr] at hl
  have hlen' : xs.length = 3 := hlen
  obtain ⟨y0, y1, y2, rfl⟩ := len3 hlen'
  obtain ⟨c0, c1, c2, c3, rfl⟩ := len4 hl
  have h0 : DataW.trod enc Tryz.prog w 0 spare held n' 9 [c0] = some y0 := by simpa [c_string] using hf 0 _ rfl
  have h1 : DataW.trod enc Tryz.prog w 0 spare held n' 9 [c1] = some y1 := by simpa [c_string] using hf 1 _ rfl
  have h2 : DataW.trod enc Tryz.prog w 0 spare held n' 40 [c2, c3] = some y2 := by simpa [c_span] using hf 2 _ rfl
  obtain ⟨s0, e0, rfl, _⟩ := DataW.trod_string Tryz.underlying9 h0
  obtain ⟨s1, e1, rfl, _⟩ := DataW.trod_string Tryz.underlying9 h1
  obtain ⟨lo, hi, e2, _, _⟩ := open_span h2
  simp only [List.cons.injEq, and_true] at e0 e1 e2
  obtain ⟨rfl, rfl⟩ := e2
  subst e0; subst e1
  refine ⟨⟨s0.data.toList, s1.data.toList, lo, hi⟩, rfl, ?_⟩
  simp only [wtAttr, bulk, Rows.uptoBulk, Rows.uptoBulkAll, List.map_cons, List.map_nil]
  omega
theorem open_attrs {n : Nat} {cs : List Value} {y : DataW H × List MemPlace} (h : DataW.trod enc Tryz.prog w 0 spare held n 43 cs = some y) :
    ∃ (v : Value) (ds : List PAttr), cs = [v] ∧ AttrsAt w v ds ∧ (ds.map wtAttr).sum + 1 ≤ bulk y.1 := by
  obtain ⟨v, ds, h1, h2, _, h3⟩ := open_nest (fun d _ => attrCells d) (fun _ _ _ => True) (fun _ => True) wtAttr Tryz.underlying43 c_attr (by omega) (fun n cs y h => by
    obtain ⟨d, h1, h2⟩ := open_attr h
    exact ⟨d, .bool false, h1, trivial, trivial, h2⟩) h
  exact ⟨v, ds, h1, nest_rows h2, h3⟩
theorem open_node {n : Nat} {cs : List Value} {y : DataW H × List MemPlace} (h : DataW.trod enc Tryz.prog w 0 spare held n 45 cs = some y) :
    ∃ (d : PNode) (u : Value), cs = nodeCells d u ∧ AttrsAt w u d.attrs ∧ I64 d.parent ∧ wtNode d ≤ bulk y.1 := by
  obtain ⟨xs, n', _, rfl, hl, hlen, hf⟩ := DataW.trod_struct Tryz.underlying45 h
  rw [c_node] at hl
  have hlen' : xs.length = 5 := hlen
  obtain ⟨y0, y1, y2, y3, y4, rfl⟩ := len5 hlen'
  obtain ⟨c0, c1, c2, c3, c4, c5, rfl⟩ := len6 hl
  have h0 : DataW.trod enc Tryz.prog w 0 spare held n' 9 [c0] = some y0 := by simpa [c_string] using hf 0 _ rfl
  have h1 : DataW.trod enc Tryz.prog w 0 spare held n' 3 [c1] = some y1 := by simpa [c_int] using hf 1 _ rfl
  have h2 : DataW.trod enc Tryz.prog w 0 spare held n' 43 [c2] = some y2 := by simpa [c_attrs] using hf 2 _ rfl
  have h3 : DataW.trod enc Tryz.prog w 0 spare held n' 3 [c3] = some y3 := by simpa [c_int] using hf 3 _ rfl
  have h4 : DataW.trod enc Tryz.prog w 0 spare held n' 40 [c4, c5] = some y4 := by simpa [c_span] using hf 4 _ rfl
  obtain ⟨s0, e0, rfl, _⟩ := DataW.trod_string Tryz.underlying9 h0
  obtain ⟨p, e1, rfl, gp⟩ := DataW.trod_int Tryz.underlying3 h1
  obtain ⟨u, al, e2, hal, hb⟩ := open_attrs h2
  obtain ⟨ne, e3, rfl, _⟩ := DataW.trod_int Tryz.underlying3 h3
  obtain ⟨lo, hi, e4, _, _⟩ := open_span h4
  simp only [List.cons.injEq, and_true] at e0 e1 e2 e3 e4
  obtain ⟨rfl, rfl⟩ := e4
  subst e0; subst e1; subst e2; subst e3
  refine ⟨⟨s0.data.toList, p, al, ne, lo, hi⟩, c2, rfl, hal, wf_i64 gp, ?_⟩
  simp only [wtNode, bulk, Rows.uptoBulk, Rows.uptoBulkAll, List.map_cons, List.map_nil] at hb ⊢
  omega
theorem open_nodes {n : Nat} {cs : List Value} {y : DataW H × List MemPlace} (h : DataW.trod enc Tryz.prog w 0 spare held n 22 cs = some y) :
    ∃ (v : Value) (ds : List PNode), cs = [v] ∧ NodesAt w v ds ∧ (∀ d ∈ ds, I64 d.parent) ∧ (ds.map wtNode).sum + 1 ≤ bulk y.1 := by
  obtain ⟨v, ds, h1, ⟨vs, g1, g2, g3⟩, h4, h3⟩ := open_nest nodeCells (fun w u (d : PNode) => AttrsAt w u d.attrs) (fun d => I64 d.parent) wtNode Tryz.underlying22 c_node (by omega) (fun n cs y h => open_node h) h
  exact ⟨v, ds, h1, ⟨vs, g1, g2, fun i n av hn ha => g3 i n av hn ha⟩, h4, h3⟩
theorem open_test {n : Nat} {cs : List Value} {y : DataW H × List MemPlace} (h : DataW.trod enc Tryz.prog w 0 spare held n 158 cs = some y) : ∃ d : PTest, cs = testCells d ∧ I64 d.kind ∧ wtTest d ≤ bulk y.1 := by
  obtain ⟨xs, n', _, rfl, hl, hlen, hf⟩ := DataW.trod_struct Tryz.underlying158 h
  rw [c_test] at hl
  have hlen' : xs.length = 3 := hlen
  obtain ⟨y0, y1, y2, rfl⟩ := len3 hlen'
  obtain ⟨c0, c1, c2, rfl⟩ := len3 hl
  have h0 : DataW.trod enc Tryz.prog w 0 spare held n' 3 [c0] = some y0 := by simpa [c_int] using hf 0 _ rfl
  have h1 : DataW.trod enc Tryz.prog w 0 spare held n' 9 [c1] = some y1 := by simpa [c_string] using hf 1 _ rfl
  have h2 : DataW.trod enc Tryz.prog w 0 spare held n' 9 [c2] = some y2 := by simpa [c_string] using hf 2 _ rfl
  obtain ⟨k, e0, rfl, gk⟩ := DataW.trod_int Tryz.underlying3 h0
  obtain ⟨s1, e1, rfl, _⟩ := DataW.trod_string Tryz.underlying9 h1
  obtain ⟨s2, e2, rfl, _⟩ := DataW.trod_string Tryz.underlying9 h2
  simp only [List.cons.injEq, and_true] at e0 e1 e2
  subst e0; subst e1; subst e2
  refine ⟨⟨k, s1.data.toList, s2.data.toList⟩, rfl, wf_i64 gk, ?_⟩
  simp only [wtTest, bulk, Rows.uptoBulk, Rows.uptoBulkAll, List.map_cons, List.map_nil]
  omega
theorem open_tests {n : Nat} {cs : List Value} {y : DataW H × List MemPlace} (h : DataW.trod enc Tryz.prog w 0 spare held n 154 cs = some y) :
    ∃ (v : Value) (ds : List PTest), cs = [v] ∧ TestsAt w v ds ∧ (ds.map wtTest).sum + 1 ≤ bulk y.1 := by
  obtain ⟨v, ds, h1, h2, _, h3⟩ := open_nest (fun d _ => testCells d) (fun _ _ _ => True) (fun _ => True) wtTest Tryz.underlying154 c_test (by omega) (fun n cs y h => by
    obtain ⟨d, h1, _, h2⟩ := open_test h
    exact ⟨d, .bool false, h1, trivial, trivial, h2⟩) h
  exact ⟨v, ds, h1, nest_rows h2, h3⟩
theorem open_part {n : Nat} {cs : List Value} {y : DataW H × List MemPlace} (h : DataW.trod enc Tryz.prog w 0 spare held n 156 cs = some y) :
    ∃ (d : PPart) (u : Value), cs = partCells d u ∧ TestsAt w u d.tests ∧ I64 d.join ∧ wtPart d ≤ bulk y.1 := by
  obtain ⟨xs, n', _, rfl, hl, hlen, hf⟩ := DataW.trod_struct Tryz.underlying156 h
  rw [c_part] at hl
  have hlen' : xs.length = 2 := hlen
  obtain ⟨y0, y1, rfl⟩ := len2 hlen'
  obtain ⟨c0, c1, rfl⟩ := len2 hl
  have h0 : DataW.trod enc Tryz.prog w 0 spare held n' 3 [c0] = some y0 := by simpa [c_int] using hf 0 _ rfl
  have h1 : DataW.trod enc Tryz.prog w 0 spare held n' 154 [c1] = some y1 := by simpa [c_tests] using hf 1 _ rfl
  obtain ⟨k, e0, rfl, gk⟩ := DataW.trod_int Tryz.underlying3 h0
  obtain ⟨u, ts, e1, hts, hb⟩ := open_tests h1
  simp only [List.cons.injEq, and_true] at e0 e1
  subst e0; subst e1
  refine ⟨⟨k, ts⟩, c1, rfl, hts, wf_i64 gk, ?_⟩
  simp only [wtPart, bulk, Rows.uptoBulk, Rows.uptoBulkAll, List.map_cons, List.map_nil] at hb ⊢
  omega
theorem open_sel {n : Nat} {cs : List Value} {y : DataW H × List MemPlace} (h : DataW.trod enc Tryz.prog w 0 spare held n 78 cs = some y) :
    ∃ (d : PSel) (u : Value), cs = [u] ∧ PartsAt w u d ∧ (∀ p ∈ d, I64 p.join) ∧ wtSel d ≤ bulk y.1 := by
  obtain ⟨v, ds, h1, h2, h4, h3⟩ := open_nest partCells (fun w u (d : PPart) => TestsAt w u d.tests) (fun d => I64 d.join) wtPart Tryz.underlying78 c_part (by omega) (fun n cs y h => open_part h) h
  exact ⟨ds, v, h1, h2, h4, h3⟩
theorem open_sels {n : Nat} {cs : List Value} {y : DataW H × List MemPlace} (h : DataW.trod enc Tryz.prog w 0 spare held n 37 cs = some y) :
    ∃ (v : Value) (ds : List PSel), cs = [v] ∧ SelsAt w v ds ∧ (∀ s ∈ ds, ∀ p ∈ s, I64 p.join) ∧ (ds.map wtSel).sum + 1 ≤ bulk y.1 := by
  obtain ⟨v, ds, h1, h2, h4, h3⟩ := open_nest selCells PartsAt (fun s => ∀ p ∈ s, I64 p.join) wtSel Tryz.underlying37 c_sel (by omega) (fun n cs y h => by
    obtain ⟨d, u, h1, h2, h3, h4⟩ := open_sel h
    exact ⟨d, u, h1, h2, h3, h4⟩) h
  exact ⟨v, ds, h1, h2, h4, h3⟩
theorem open_rule {n : Nat} {cs : List Value} {y : DataW H × List MemPlace} (h : DataW.trod enc Tryz.prog w 0 spare held n 42 cs = some y) :
    ∃ (d : PRule) (u : Value), cs = ruleCells d u ∧ RuleAt w u d ∧ (∀ s ∈ d.sels, ∀ p ∈ s, I64 p.join) ∧ wtRule d ≤ bulk y.1 := by
  obtain ⟨xs, n', _, rfl, hl, hlen, hf⟩ := DataW.trod_struct Tryz.underlying42 h
  rw [c_rule] at hl
  have hlen' : xs.length = 4 := hlen
  obtain ⟨y0, y1, y2, y3, rfl⟩ := len4 hlen'
  obtain ⟨c0, c1, c2, c3, c4, rfl⟩ := len5 hl
  have h0 : DataW.trod enc Tryz.prog w 0 spare held n' 9 [c0] = some y0 := by simpa [c_string] using hf 0 _ rfl
  have h1 : DataW.trod enc Tryz.prog w 0 spare held n' 37 [c1] = some y1 := by simpa [c_sels] using hf 1 _ rfl
  have h2 : DataW.trod enc Tryz.prog w 0 spare held n' 38 [c2] = some y2 := by simpa [c_decls] using hf 2 _ rfl
  have h3 : DataW.trod enc Tryz.prog w 0 spare held n' 40 [c3, c4] = some y3 := by simpa [c_span] using hf 3 _ rfl
  obtain ⟨s0, e0, rfl, _⟩ := DataW.trod_string Tryz.underlying9 h0
  obtain ⟨u1, ss, e1, hss, hj, hb1⟩ := open_sels h1
  obtain ⟨u2, dd, e2, hdd, hb2⟩ := open_decls h2
  obtain ⟨lo, hi, e3, _, _⟩ := open_span h3
  simp only [List.cons.injEq, and_true] at e0 e1 e2 e3
  obtain ⟨rfl, rfl⟩ := e3
  subst e0; subst e1; subst e2
  refine ⟨⟨s0.data.toList, ss, dd, lo, hi⟩, .tuple #[c1, c2], rfl, ⟨c1, c2, rfl, hss, hdd⟩, hj, ?_⟩
  simp only [wtRule, bulk, Rows.uptoBulk, Rows.uptoBulkAll, List.map_cons, List.map_nil] at hb1 hb2 ⊢
  omega
set_option maxRecDepth 20000 in
theorem arg_nodes {base : Nat} {v : Value} {d : DataW H} {p : List MemPlace} (hv : Value.okWide Tryz.prog w .any base 22 v) (h : DataW.Trod enc Tryz.prog w 0 spare held 22 v d p) :
    ∃ ds : List PNode, NodesAt w v ds ∧ (∀ d ∈ ds, I64 d.parent) ∧ (ds.map wtNode).sum + 1 ≤ bulk d := by
  obtain ⟨n, h⟩ := arg_slice (P := Tryz.prog) (e := 45) Tryz.underlying22 hv h
  obtain ⟨v', ds, h1, h2, h3⟩ := open_nodes h
  cases h1
  exact ⟨ds, h2, h3⟩
set_option maxRecDepth 20000 in
theorem arg_sel {base : Nat} {v : Value} {d : DataW H} {p : List MemPlace} (hv : Value.okWide Tryz.prog w .any base 78 v) (h : DataW.Trod enc Tryz.prog w 0 spare held 78 v d p) :
    ∃ ds : PSel, PartsAt w v ds ∧ (∀ p ∈ ds, I64 p.join) ∧ wtSel ds ≤ bulk d := by
  obtain ⟨n, h⟩ := arg_slice (P := Tryz.prog) (e := 156) Tryz.underlying78 hv h
  obtain ⟨ds, v', h1, h2, h3⟩ := open_sel h
  cases h1
  exact ⟨ds, h2, h3⟩
set_option maxRecDepth 20000 in
theorem arg_test {base : Nat} {v : Value} {d : DataW H} {p : List MemPlace} (hv : Value.okWide Tryz.prog w .any base 158 v) (h : DataW.Trod enc Tryz.prog w 0 spare held 158 v d p) :
    ∃ t : PTest, v = .agg (testCells t).toArray ∧ I64 t.kind ∧ wtTest t ≤ bulk d := by
  obtain ⟨cs, rfl, _⟩ := okWide_struct (P := Tryz.prog) Tryz.underlying158 hv
  obtain ⟨n, h⟩ := h
  obtain ⟨t, h1, h2, h3⟩ := open_test h
  have : cs = (testCells t).toArray := by
    have h4 : cs.toList = testCells t := h1
    rw [← h4]
  exact ⟨t, by rw [this], h2, h3⟩
set_option maxRecDepth 20000 in
theorem arg_rule {base : Nat} {v : Value} {d : DataW H} {p : List MemPlace} (hv : Value.okWide Tryz.prog w .any base 42 v) (h : DataW.Trod enc Tryz.prog w 0 spare held 42 v d p) :
    ∃ (r : PRule) (u : Value), v = ruleVal r u ∧ RuleAt w u r ∧ (∀ s ∈ r.sels, ∀ p ∈ s, I64 p.join) ∧ wtRule r ≤ bulk d := by
  obtain ⟨cs, rfl, _⟩ := okWide_struct (P := Tryz.prog) Tryz.underlying42 hv
  obtain ⟨n, h⟩ := h
  obtain ⟨r, u, h1, h2, h3⟩ := open_rule h
  have : cs = (ruleCells r u).toArray := by
    have h4 : cs.toList = ruleCells r u := h1
    rw [← h4]
  exact ⟨r, u, by rw [this]; rfl, h2, h3⟩
end
end Go.Proofs.YtplbdlgmjehckacGreatDoor
