/- The law of RowsText, told by contract; and what rows an argument reads as. No conditions. -/
import Derived.Test.YtemaflbbcihilaaDoorV5
import Derived.Test.YtemaflbbcihilaaDoorA1
namespace Go.Proofs.YtemaflbbcihilaaDoor.Fl
open Go Go.RowKit
set_option linter.unusedSimpArgs false
set_option linter.unusedVariables false

theorem flat_rows {l : List RowM} : ∀ c ∈ l.map rowC, c.length = 4 := by
  intro c hc; obtain ⟨r, _, rfl⟩ := List.mem_map.1 hc; rfl

theorem own_rows {w0 : World} {m m1 : Frag} {e : TypeId} {v : Value} {l : List RowM} (h : OwnR w0 m m1 4 e v l.length (l.map rowC).flatten) (hl : l.length ≤ 2 ^ 40) : slT w0 m1 4 v (l.map rowC) := by
  refine OwnR.sl (m := m) (e := e) ?_ flat_rows (by rw [List.length_map]; exact hl)
  rw [List.length_map]; exact h

theorem c_lawRowsText {w0 : World} {m : Frag} {a : Value} {l : List RowM} (ht : TabOk w0) (ha : slT w0 m 4 a (l.map rowC)) (hs : ∀ r ∈ l, r.s.size ≤ 9223372036854775807) : ACall Tryd.prog w0 n_laws_FnExactRowsText #[a] m fun v m' => v = .bool true ∧ m' = m := by
  refine acall_x mo x_laws_FnExactRowsText (by rw [p_laws_FnExactRowsText]; exact Nat.le_of_ble_eq_true rfl) ?_
  unfold r_laws_FnExactRowsText
  simp -dsimp (disch := first | omega | (simp only [bys_size, ByteArray.size_append, List.length_cons, List.length_nil] ; omega)) only [xrun, ↓xpre, ↓reduceIte, xval, xops, xlib, boolV, nilV, nilN, oneC, splice, ne_eq, Nat.reduceEqDiff, Nat.reduceAdd, Nat.reduceMul, Nat.reduceLeDiff, Int.reduceToNat]
  refine callH_of (c_szRowS ha hs (by omega)) ?_
  rintro v m' ⟨rfl, rfl⟩
  simp -dsimp (disch := first | omega | (simp only [bys_size, ByteArray.size_append, List.length_cons, List.length_nil] ; omega)) only [xrun, ↓xpre, ↓reduceIte, xval, xops, xlib, boolV, nilV, nilN, oneC, splice, ne_eq, Nat.reduceEqDiff, Nat.reduceAdd, Nat.reduceMul, Nat.reduceLeDiff, Int.reduceToNat]
  refine condH_of (fun h => ?_) (fun h => ?_)
  · simp -dsimp (disch := first | omega | (simp only [bys_size, ByteArray.size_append, List.length_cons, List.length_nil] ; omega)) only [xrun, ↓xpre, ↓reduceIte, xval, xops, xlib, boolV, nilV, nilN, oneC, splice, ne_eq, Nat.reduceEqDiff, Nat.reduceAdd, Nat.reduceMul, Nat.reduceLeDiff, Int.reduceToNat]
    exact wkH_self ⟨rfl, rfl⟩
  · have hlen : (l.length : Int) ≤ 1048576 := by
      refine Int.not_lt.1 fun h' => h ?_
      unfold szRows; rw [if_pos h']; omega
    have hs2 : ∀ r ∈ l, r.s.size ≤ 2 ^ 62 := by
      have h1 : szRows l 1048576 = szL l (1048576 - l.length) := by unfold szRows; rw [if_neg (by omega)]
      rw [h1] at h
      intro r hr
      have := (szL_le (by omega) (Int.not_lt.1 h)).2 r hr
      omega
    simp -dsimp (disch := first | omega | (simp only [bys_size, ByteArray.size_append, List.length_cons, List.length_nil] ; omega)) only [xrun, ↓xpre, ↓reduceIte, xval, xops, xlib, boolV, nilV, nilN, oneC, splice, ne_eq, Nat.reduceEqDiff, Nat.reduceAdd, Nat.reduceMul, Nat.reduceLeDiff, Int.reduceToNat]
    refine callH_of (c_toRowS ha (by omega)) ?_
    intro v1 m1 o1
    obtain ⟨a1, c1, rfl⟩ := o1.shape
    have s1 := own_rows o1 (by omega)
    simp -dsimp (disch := first | omega | (simp only [bys_size, ByteArray.size_append, List.length_cons, List.length_nil] ; omega)) only [xrun, ↓xpre, ↓reduceIte, xval, xops, xlib, boolV, nilV, nilN, oneC, splice, ne_eq, Nat.reduceEqDiff, Nat.reduceAdd, Nat.reduceMul, Nat.reduceLeDiff, Int.reduceToNat]
    refine callH_of (c_specRowsText s1 hs2) ?_
    rintro v m' ⟨rfl, rfl⟩
    simp -dsimp (disch := first | omega | (simp only [bys_size, ByteArray.size_append, List.length_cons, List.length_nil] ; omega)) only [xrun, ↓xpre, ↓reduceIte, xval, xops, xlib, boolV, nilV, nilN, oneC, splice, ne_eq, Nat.reduceEqDiff, Nat.reduceAdd, Nat.reduceMul, Nat.reduceLeDiff, Int.reduceToNat]
    intro b1 hB1 hb1
    have hcl : (rowsTextV l).cells.toList.length = 2 ∧ (rowsTextV l).cells.toList.all oneC = true := by unfold rowsTextV; split <;> exact ⟨rfl, rfl⟩
    simp -dsimp (disch := first | omega | (simp only [bys_size, ByteArray.size_append, List.length_cons, List.length_nil] ; omega)) only [xrun, ↓xpre, ↓reduceIte, xval, xops, xlib, boolV, nilV, nilN, oneC, splice, ne_eq, Nat.reduceEqDiff, Nat.reduceAdd, Nat.reduceMul, Nat.reduceLeDiff, Int.reduceToNat, hcl]
    have x1 := o1.keep.trans (Ext.set (.cells (rowsTextV l).cells.toList 2 t_impl_TextResult) hb1)
    refine callH_of (c_toRowS (slT_ext x1 ha) (by omega)) ?_
    intro v2 m2 o2
    obtain ⟨a2, c2, rfl⟩ := o2.shape
    have s2 := own_rows o2 (by omega)
    simp -dsimp (disch := first | omega | (simp only [bys_size, ByteArray.size_append, List.length_cons, List.length_nil] ; omega)) only [xrun, ↓xpre, ↓reduceIte, xval, xops, xlib, boolV, nilV, nilN, oneC, splice, ne_eq, Nat.reduceEqDiff, Nat.reduceAdd, Nat.reduceMul, Nat.reduceLeDiff, Int.reduceToNat]
    refine callH_of (c_implRowsText ht s2 hs2) ?_
    rintro v m' ⟨rfl, rfl⟩
    simp -dsimp (disch := first | omega | (simp only [bys_size, ByteArray.size_append, List.length_cons, List.length_nil] ; omega)) only [xrun, ↓xpre, ↓reduceIte, xval, xops, xlib, boolV, nilV, nilN, oneC, splice, ne_eq, Nat.reduceEqDiff, Nat.reduceAdd, Nat.reduceMul, Nat.reduceLeDiff, Int.reduceToNat]
    intro b2 hB2 hb2
    have x2 := o2.keep.trans (Ext.set (.cells (rowsTextV l).cells.toList 2 t_impl_TextResult) hb2)
    have hr1 := row_own hB1 (x2 _ _ (Frag.set_same _ _ _))
    obtain ⟨c, s, hv⟩ : ∃ c s, rowsTextV l = .agg #[.int .i64 c, .string s] := by unfold rowsTextV; split <;> exact ⟨_, _, rfl⟩
    have hv2 : (rowsTextV l).cells.toList = [.int .i64 c, .string s] := by rw [hv]; rfl
    rw [hv2] at hr1 x1 x2
    simp -dsimp (disch := first | omega | (simp only [bys_size, ByteArray.size_append, List.length_cons, List.length_nil] ; omega)) only [xrun, ↓xpre, ↓reduceIte, xval, xops, xlib, boolV, nilV, nilN, oneC, splice, ne_eq, Nat.reduceEqDiff, Nat.reduceAdd, Nat.reduceMul, Nat.reduceLeDiff, Int.reduceToNat, hcl, hv2, hr1]
    refine callH_of c_eqTextResult ?_
    rintro v m' ⟨rfl, rfl⟩
    simp -dsimp (disch := first | omega | (simp only [bys_size, ByteArray.size_append, List.length_cons, List.length_nil] ; omega)) only [xrun, ↓xpre, ↓reduceIte, xval, xops, xlib, boolV, nilV, nilN, oneC, splice, ne_eq, Nat.reduceEqDiff, Nat.reduceAdd, Nat.reduceMul, Nat.reduceLeDiff, Int.reduceToNat]
    have x3 := x1.trans x2
    refine callH_of (c_toRowS (slT_ext x3 ha) (by omega)) ?_
    intro v3 m3 o3
    obtain ⟨a3, c3, rfl⟩ := o3.shape
    have s3 := own_rows o3 (by omega)
    simp -dsimp (disch := first | omega | (simp only [bys_size, ByteArray.size_append, List.length_cons, List.length_nil] ; omega)) only [xrun, ↓xpre, ↓reduceIte, xval, xops, xlib, boolV, nilV, nilN, oneC, splice, ne_eq, Nat.reduceEqDiff, Nat.reduceAdd, Nat.reduceMul, Nat.reduceLeDiff, Int.reduceToNat]
    refine callH_of (c_eqRowS (slT_ext ((Ext.set _ hb2).trans o3.keep) s2) s3) ?_
    rintro v m' ⟨rfl, rfl⟩
    simp -dsimp (disch := first | omega | (simp only [bys_size, ByteArray.size_append, List.length_cons, List.length_nil] ; omega)) only [xrun, ↓xpre, ↓reduceIte, xval, xops, xlib, boolV, nilV, nilN, oneC, splice, ne_eq, Nat.reduceEqDiff, Nat.reduceAdd, Nat.reduceMul, Nat.reduceLeDiff, Int.reduceToNat]
    exact wkH_ext (x3.trans o3.keep) ⟨rfl, rfl⟩

/-- A struct's fields: where each lies, how many cells it has, its type. -/
def structOf (P : Program) (t : TypeId) : Option (List (Nat × Nat × TypeId)) := match P.underlying t with
  | some (.struct fs) => some (fs.toList.map fun f => (f.offset, P.cellsOf f.type, f.type))
  | _ => Option.none

theorem open_struct {H : Type} {enc : TypeId × Value → H} {P : Program} {W : World} {base : Nat} {sp : Nat → Bool} {held : Bool} {t : TypeId} {l : List (Nat × Nat × TypeId)} {fuel : Nat} {c : List Value} {y : DataW H × List MemPlace} (hl : structOf P t = some l) (h : DataW.trod enc P W base sp held fuel t c = some y) :
    c.length = P.cellsOf t ∧ ∀ (i : Nat) (f : Nat × Nat × TypeId), l[i]? = some f → ∃ n z, DataW.trod enc P W base sp held n f.2.2 ((c.drop f.1).take f.2.1) = some z := by
  unfold structOf at hl
  split at hl
  · rename_i fs hf
    cases hl
    obtain ⟨xs, n, _, _, h1, h2, h3⟩ := DataW.trod_struct hf h
    refine ⟨h1, fun i f hi => ?_⟩
    rw [List.getElem?_map, Option.map_eq_some_iff] at hi
    obtain ⟨g, hg, rfl⟩ := hi
    have hg' : fs[i]? = some g := by simpa using hg
    have hlt : i < xs.length := by rw [h2]; exact (Array.getElem?_eq_some_iff.1 hg').1
    exact ⟨n, xs[i], by rw [h3 i g hg', List.getElem?_eq_getElem hlt]⟩
  · cases hl

theorem u_int64 : Tryd.prog.underlying t_int64 = some (.int .i64) := by kernel_rfl
theorem u_string : Tryd.prog.underlying t_string = some .string := by kernel_rfl
theorem so_Row : structOf Tryd.prog t_laws_Row = some [(0, 1, t_int64), (1, 1, t_int64), (2, 1, t_int64), (3, 1, t_string)] := by kernel_rfl
theorem co_Row : Tryd.prog.cellsOf t_laws_Row = 4 := by kernel_rfl

theorem wf_i64 {n : Int} (h : (Lit.int .i64 n).wf = true) : -9223372036854775808 ≤ n ∧ n ≤ 9223372036854775807 := by
  simp only [Lit.wf, Bool.and_eq_true, decide_eq_true_eq] at h
  exact h

/-- A row's numbers are of their kind. -/
def RowM.fit (r : RowM) : Prop := r.s.size ≤ 9223372036854775807 ∧ (-9223372036854775808 ≤ r.t ∧ r.t ≤ 9223372036854775807) ∧ (-9223372036854775808 ≤ r.k ∧ r.k ≤ 9223372036854775807) ∧ (-9223372036854775808 ≤ r.v ∧ r.v ≤ 9223372036854775807)

theorem open_row {H : Type} {enc : TypeId × Value → H} {W : World} {base : Nat} {sp : Nat → Bool} {held : Bool} {fuel : Nat} {c : List Value} {y : DataW H × List MemPlace} (h : DataW.trod enc Tryd.prog W base sp held fuel t_laws_Row c = some y) : ∃ r : RowM, r.fit ∧ rowC r = c := by
  obtain ⟨hl, hf⟩ := open_struct so_Row h
  rw [co_Row] at hl
  obtain ⟨_, _, h0⟩ := hf 0 _ rfl
  obtain ⟨_, _, h1⟩ := hf 1 _ rfl
  obtain ⟨_, _, h2⟩ := hf 2 _ rfl
  obtain ⟨_, _, h3⟩ := hf 3 _ rfl
  obtain ⟨n0, e0, _, w0⟩ := DataW.trod_int u_int64 h0
  obtain ⟨n1, e1, _, w1⟩ := DataW.trod_int u_int64 h1
  obtain ⟨n2, e2, _, w2⟩ := DataW.trod_int u_int64 h2
  obtain ⟨s3, e3, _, w3⟩ := DataW.trod_string u_string h3
  have hm : maxLen = 9223372036854775807 := by decide
  refine ⟨⟨n0, n1, n2, s3⟩, ⟨by show s3.size ≤ _; omega, wf_i64 w0, wf_i64 w1, wf_i64 w2⟩, ?_⟩
  match c, hl with
  | [a0, a1, a2, a3], _ =>
    simp only [List.drop_succ_cons, List.drop_zero, List.take_succ_cons, List.take_zero, List.cons.injEq, and_true] at e0 e1 e2 e3
    rw [e0, e1, e2, e3]; rfl

theorem open_rows {H : Type} {enc : TypeId × Value → H} {W : World} {sp : Nat → Bool} {held : Bool} {fuel t : TypeId} {v : Value} {x : DataW H × List MemPlace} (ht : Tryd.prog.underlying t = some (.slice t_laws_Row)) (h : DataW.trod enc Tryd.prog W 0 sp held fuel t [v] = some x) :
    ∃ l : List RowM, slT W Frag.none 4 v (l.map rowC) ∧ ∀ r ∈ l, r.fit := by
  obtain ⟨el, hs, he⟩ := open_sl (es := 4) ht co_Row (by decide) h
  obtain ⟨k, rfl, hk⟩ := map_of_all (f := rowC) (p := RowM.fit) fun c hc => by
    obtain ⟨n, y, hy⟩ := he c hc
    exact open_row hy
  exact ⟨k, hs, hk⟩

end Go.Proofs.YtemaflbbcihilaaDoor.Fl
