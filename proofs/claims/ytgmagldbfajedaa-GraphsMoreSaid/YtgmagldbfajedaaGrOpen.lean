/-
  How a graph lies in memory (NodeAt, Nodes), and how an argument reads as one.
-/
import Derived.Test.YtgmagldbfajedaaOpened
import Derived.Test.YtgmagldbfajedaaGrShapes
namespace Go.Proofs.Ytgmagldbfajedaa
open Go.ChangeShapes Go.WideShapes Go.ChangeAt Go.RowKit

/-- The node at a place. -/
def nodeN (g : List Gr.Node) (i : Nat) : Gr.Node := g.getD i ⟨0, [], [], 0, 0⟩
theorem nodeN_eq (g : List Gr.Node) (i : Nat) (h : i < g.length) : nodeN g i = g[i] := by
  unfold nodeN; rw [List.getD_eq_getElem?_getD, List.getElem?_eq_getElem h]; rfl
theorem nodeN_take (g : List Gr.Node) (k i : Nat) (h : i < k) : nodeN (g.take k) i = nodeN g i := by
  unfold nodeN; simp only [List.getD_eq_getElem?_getD, List.getElem?_take, h, if_true]

/-- The values of a node's cells. -/
structure NodeV (w : World) (ai : Option Addr) (li ci : Nat) (sa : Option Addr) (ls cs : Nat) (x : Gr.Node) : Prop where
  i : Ints w ai li ci x.inn
  s : Ints w sa ls cs x.shape
  li : li ≤ 17592186044416
  ls : ls ≤ 17592186044416
  kind : 0 ≤ x.kind ∧ x.kind ≤ 255
  n : -9223372036854775808 ≤ x.n ∧ x.n ≤ 9223372036854775807
  pad : -9223372036854775808 ≤ x.pad ∧ x.pad ≤ 9223372036854775807

theorem NodeV.below {w w' : World} {ai sa : Option Addr} {li ci ls cs : Nat} {x : Gr.Node} (h : NodeV w ai li ci sa ls cs x) (hb : Below w.heap.size w w') : NodeV w' ai li ci sa ls cs x :=
  ⟨h.i.below hb, h.s.below hb, h.li, h.ls, h.kind, h.n, h.pad⟩

/-- A node lies from a cell on; what it takes in, and its shape, lie as in w0. -/
def NodeAt (w w0 : World) (b o : Nat) (x : Gr.Node) : Prop :=
  ∃ ai li ci sa ls cs, w.cell? ⟨b, o, none⟩ = some (.int .u8 x.kind) ∧ w.cell? ⟨b, o + 1, none⟩ = some (.slice ai li ci) ∧ w.cell? ⟨b, o + 2, none⟩ = some (.slice sa ls cs) ∧
    w.cell? ⟨b, o + 3, none⟩ = some (.int .i64 x.n) ∧ w.cell? ⟨b, o + 4, none⟩ = some (.int .i64 x.pad) ∧ NodeV w0 ai li ci sa ls cs x

theorem NodeAt.below {w w' w0 w0' : World} {b o : Nat} {x : Gr.Node} (h : NodeAt w w0 b o x) (hlt : b < w.heap.size) (hb : Below w.heap.size w w') (hb0 : Below w0.heap.size w0 w0') : NodeAt w' w0' b o x := by
  obtain ⟨ai, li, ci, sa, ls, cs, h0, h1, h2, h3, h4, hv⟩ := h
  exact ⟨ai, li, ci, sa, ls, cs, (hb.cell (p := ⟨b, _, none⟩) hlt).trans h0, (hb.cell (p := ⟨b, _, none⟩) hlt).trans h1, (hb.cell (p := ⟨b, _, none⟩) hlt).trans h2,
    (hb.cell (p := ⟨b, _, none⟩) hlt).trans h3, (hb.cell (p := ⟨b, _, none⟩) hlt).trans h4, hv.below hb0⟩

/-- A slice of nodes; what they take in, and their shapes, lie as in w0. -/
structure NodesIn (w w0 : World) (a : Option Addr) (len cap : Nat) (g : List Gr.Node) : Prop where
  le : len ≤ cap
  cap_le : cap ≤ 9223372036854775807
  len_le : len ≤ 17592186044416
  length : g.length = len
  at_ : 0 < len → ∃ b off, a = some ⟨b, off, none⟩ ∧ b < w.heap.size ∧ ∀ i, i < len → NodeAt w w0 b (off + i * 5) (nodeN g i)

/-- A slice of nodes. -/
abbrev Nodes (w : World) (a : Option Addr) (len cap : Nat) (g : List Gr.Node) : Prop := NodesIn w w a len cap g

theorem NodesIn.nil {w w0 : World} : NodesIn w w0 none 0 0 [] := ⟨Nat.le_refl _, by omega, by omega, rfl, (fun h => absurd h (Nat.lt_irrefl 0))⟩
theorem NodesIn.below {w w' w0 w0' : World} {a : Option Addr} {len cap : Nat} {g : List Gr.Node} (h : NodesIn w w0 a len cap g) (hb : Below w.heap.size w w') (hb0 : Below w0.heap.size w0 w0') : NodesIn w' w0' a len cap g :=
  ⟨h.le, h.cap_le, h.len_le, h.length, fun h0 => by
    obtain ⟨b, off, rfl, hlt, hc⟩ := h.at_ h0
    exact ⟨b, off, rfl, Nat.lt_of_lt_of_le hlt hb.size, fun i hi => (hc i hi).below hlt hb hb0⟩⟩
theorem NodesIn.take {w w0 : World} {a : Option Addr} {len cap : Nat} {g : List Gr.Node} (h : NodesIn w w0 a len cap g) (k : Nat) (hk : k ≤ len) : NodesIn w w0 a k cap (g.take k) :=
  ⟨Nat.le_trans hk h.le, h.cap_le, by have := h.len_le; omega, by rw [List.length_take, h.length]; omega, fun h0 => by
    obtain ⟨b, off, e, hlt, hc⟩ := h.at_ (by omega)
    exact ⟨b, off, e, hlt, fun i hi => by rw [nodeN_take g k i hi]; exact hc i (by omega)⟩⟩

section
variable {H : Type} {enc : TypeId × Value → H} {W : World}

theorem weights_mem_all {P : Program} {e : TypeId} : ∀ (l : List (DataW H)) (d : DataW H), d ∈ l → ∀ m ∈ d.weights P e, m ∈ DataW.weightsAll P e l
  | x :: r, d, hd, m, hm => by
    simp only [DataW.weightsAll, List.mem_append]
    rcases List.mem_cons.1 hd with rfl | hd
    · exact .inl hm
    · exact .inr (weights_mem_all r d hd m hm)

theorem u8_bounds {n : Int} (h : (Lit.int .u8 n).wf = true) : 0 ≤ n ∧ n ≤ 255 := by
  have h1 : IntKind.u8.min = 0 := rfl
  have h2 : IntKind.u8.max = 255 := rfl
  simp only [Lit.wf, Bool.and_eq_true, decide_eq_true_eq] at h
  omega

theorem Try.cells46 : Try.prog.cellsOf 46 = 5 := by kernel_rfl
theorem Try.cells44 : Try.prog.cellsOf 44 = 1 := by kernel_rfl
theorem Try.cells36 : Try.prog.cellsOf 36 = 1 := by kernel_rfl
theorem Try.cells38 : Try.prog.cellsOf 38 = 1 := by kernel_rfl
theorem Try.bytes46 : Try.prog.bytesOf 46 = 72 := by kernel_rfl

set_option maxRecDepth 100000 in
theorem node_of_trod {n b o : Nat} {cs : List Value} {y : DataW H × List MemPlace} (hf : DataW.trod enc Try.prog W 0 (fun _ => true) true n 46 cs = some y) (hc : ∀ i, i < 5 → W.cell? ⟨b, o + i, none⟩ = cs[i]?)
    (hlt : ∀ x ∈ y.2, x.block < W.heap.size) (hw : ∀ m ∈ y.1.weights Try.prog 46, m ≤ reachBytes) : ∃ x, NodeAt W W b o x := by
  obtain ⟨xs, n, _, hx, hl, hlen, hfs⟩ := DataW.trod_struct Try.underlying46 hf
  rw [Try.cells46] at hl
  match cs, hl with
  | [c0, c1, c2, c3, c4], _ =>
  match xs, hlen with
  | [y0, y1, y2, y3, y4], _ =>
    subst hx
    have f0 : DataW.trod enc Try.prog W 0 (fun _ => true) true n 44 [c0] = some y0 := by simpa [Try.cells44, Try.cells22, Try.cells3] using hfs 0 _ rfl
    have f1 : DataW.trod enc Try.prog W 0 (fun _ => true) true n 22 [c1] = some y1 := by simpa [Try.cells44, Try.cells22, Try.cells3] using hfs 1 _ rfl
    have f2 : DataW.trod enc Try.prog W 0 (fun _ => true) true n 22 [c2] = some y2 := by simpa [Try.cells44, Try.cells22, Try.cells3] using hfs 2 _ rfl
    have f3 : DataW.trod enc Try.prog W 0 (fun _ => true) true n 3 [c3] = some y3 := by simpa [Try.cells44, Try.cells22, Try.cells3] using hfs 3 _ rfl
    have f4 : DataW.trod enc Try.prog W 0 (fun _ => true) true n 3 [c4] = some y4 := by simpa [Try.cells44, Try.cells22, Try.cells3] using hfs 4 _ rfl
    simp only [List.flatMap_cons, List.flatMap_nil, List.append_nil, List.mem_append] at hlt
    simp only [DataW.weights, Try.underlying46, DataW.weightsEach, List.map_cons, List.map_nil, List.mem_append] at hw
    obtain ⟨kd, e0, _, w0⟩ := DataW.trod_int Try.underlying44 f0
    obtain ⟨ai, li, ci, inn, e1, i1, r1⟩ := ints_of_trod f1 (fun x hx => hlt x (by simp [hx])) (fun m hm => hw m (by simp [hm]))
    obtain ⟨sa, ls, cs, shp, e2, i2, r2⟩ := ints_of_trod f2 (fun x hx => hlt x (by simp [hx])) (fun m hm => hw m (by simp [hm]))
    obtain ⟨nn, e3, _, w3⟩ := DataW.trod_int Try.underlying3 f3
    obtain ⟨pad, e4, _, w4⟩ := DataW.trod_int Try.underlying3 f4
    simp only [List.cons.injEq, and_true] at e0 e1 e2 e3 e4
    subst e0; subst e1; subst e2; subst e3; subst e4
    exact ⟨⟨kd, inn, shp, nn, pad⟩, ai, li, ci, sa, ls, cs, hc 0 (by omega), hc 1 (by omega), hc 2 (by omega), hc 3 (by omega), hc 4 (by omega), i1, i2, r1, r2, u8_bounds w0, wf_bounds w3, wf_bounds w4⟩

theorem nodes_of_trod {n : Nat} {cs : List Value} {y : DataW H × List MemPlace} (hf : DataW.trod enc Try.prog W 0 (fun _ => true) true n 36 cs = some y) (hlt : ∀ x ∈ y.2, x.block < W.heap.size)
    (hw : ∀ m ∈ y.1.weights Try.prog 36, m ≤ reachBytes) : ∃ a len cap g, cs = [.slice a len cap] ∧ Nodes W a len cap g := by
  rcases Go.Deep.open_slice Try.underlying36 hf with ⟨rfl, rfl⟩ | ⟨a, len, cap, m, n, D, Pl, rfl, _, hl, hm, hmm, rfl, hx⟩
  · exact ⟨none, 0, 0, [], rfl, NodesIn.nil⟩
  · simp only [if_true] at hmm
    subst hmm
    have hlen : m * 72 ≤ 140737488351232 := by
      have := hw ((((List.range len).map D).length + ((List.range (m - len)).map fun j => D (len + j)).length) * 72) (by
        simp only [DataW.weights, Try.underlying36, Try.bytes46, List.mem_cons, true_or])
      simp only [List.length_map, List.length_range, reachBytes] at this
      omega
    rw [Try.cells46] at hx
    obtain ⟨b, off, spot⟩ := a
    by_cases h0 : 0 < len
    · have hspot : spot = none := by
        obtain ⟨cs', h1, h2⟩ := hx 0 (by omega)
        obtain ⟨_, hl5, hc5⟩ := World.cells?_some h1
        have h3 := hc5 0 (by omega)
        rw [List.getElem?_eq_getElem (by omega)] at h3
        simpa [Addr.add] using World.cell?_spot h3
      subst hspot
      have hnode : ∀ i, i < len → ∃ x, NodeAt W W b (off + i * 5) x := by
        intro i hi
        obtain ⟨cs', h1, h2⟩ := hx i (by omega)
        obtain ⟨_, hl5, hc5⟩ := World.cells?_some h1
        refine node_of_trod h2 (fun k hk => ?_) (fun x hx' => hlt x ?_) (fun m' hm' => hw m' ?_)
        · have h4 := hc5 k hk
          rw [Addr.add_lit, Addr.add_lit] at h4
          exact h4
        · simp only [List.mem_append, List.mem_flatMap]
          exact .inr ⟨i, by simp; omega, hx'⟩
        · simp only [DataW.weights, Try.underlying36, List.mem_cons, List.mem_append]
          exact .inr (.inl (weights_mem_all _ (D i) (by simp only [List.mem_map, List.mem_range]; exact ⟨i, hi, rfl⟩) m' hm'))
      haveI : Inhabited Gr.Node := ⟨⟨0, [], [], 0, 0⟩⟩
      obtain ⟨X, hX⟩ := Go.Deep.choose_lt hnode
      refine ⟨some ⟨b, off, none⟩, len, m, (List.range len).map X, rfl, ⟨hl, by unfold maxLen at hm; omega, by omega, by simp, fun _ => ⟨b, off, rfl, ?_, fun i hi => ?_⟩⟩⟩
      · exact hlt (.cell b off) (by simp only [List.mem_append, Try.cells46]; left; exact MemPlace.mem_row.2 ⟨0, by omega, by simp⟩)
      · rw [show nodeN ((List.range len).map X) i = X i by rw [nodeN_eq _ _ (by simpa using hi)]; simp]
        exact hX i hi
    · have : len = 0 := by omega
      subst this
      exact ⟨some ⟨b, off, spot⟩, 0, m, [], rfl, ⟨hl, by unfold maxLen at hm; omega, by omega, rfl, fun h => absurd h (by omega)⟩⟩

theorem array1 {α : Type} {cs : Array α} (h : cs.size = 1) : ∃ c0, cs = #[c0] := by
  obtain ⟨l⟩ := cs
  match l, h with
  | [c0], _ => exact ⟨c0, rfl⟩

set_option maxRecDepth 100000 in
theorem graph_open {base : Nat} {v : Value} {d : DataW H} {p : List MemPlace} (hv : Value.okWide Try.prog W .any base 38 v) (h : DataW.Trod enc Try.prog W 0 (fun _ => true) true 38 v d p)
    (hlt : ∀ x ∈ p, x.block < W.heap.size) (hw : ∀ m ∈ d.weights Try.prog 38, m ≤ reachBytes) : ∃ a len cap g, v = .agg #[.slice a len cap] ∧ Nodes W a len cap g := by
  obtain ⟨cs, rfl, hsz⟩ := okWide_struct Try.underlying38 hv
  obtain ⟨c0, rfl⟩ := array1 (hsz.trans Try.cells38)
  obtain ⟨fuel, hf⟩ := h
  obtain ⟨xs, n, _, hx, hl, hlen, hfs⟩ := DataW.trod_struct Try.underlying38 hf
  match xs, hlen with
  | [y0], _ =>
    simp only [Prod.mk.injEq] at hx
    obtain ⟨rfl, rfl⟩ := hx
    have f0 : DataW.trod enc Try.prog W 0 (fun _ => true) true n 36 [c0] = some y0 := by simpa [Value.cells, Try.cells36] using hfs 0 _ rfl
    simp only [List.flatMap_cons, List.flatMap_nil, List.append_nil] at hlt
    simp only [DataW.weights, Try.underlying38, DataW.weightsEach, List.map_cons, List.map_nil, List.append_nil] at hw
    obtain ⟨a, len, cap, g, e, N⟩ := nodes_of_trod f0 hlt hw
    simp only [List.cons.injEq, and_true] at e
    subst e
    exact ⟨a, len, cap, g, rfl, N⟩

end
end Go.Proofs.Ytgmagldbfajedaa
