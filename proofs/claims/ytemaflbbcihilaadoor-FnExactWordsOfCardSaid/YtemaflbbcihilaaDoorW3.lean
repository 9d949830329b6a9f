/- Words by the library's Split: by contract. No conditions. -/
import Derived.Test.YtemaflbbcihilaaDoorW2
import Derived.Test.YtemaflbbcihilaaDoorShelf
import Derived.ChangeAgain
import Derived.Lib.SplitLaws
namespace Go.Proofs.YtemaflbbcihilaaDoor.Fl
open Go Go.RowKit
set_option linter.unusedSimpArgs false
set_option linter.unusedVariables false

theorem shaped_below {P : Program} {w0 w : World} (h : w0.ShapedOpen P) (hb : Below w0.heap.size w0 w) : w.ShapedOpen P :=
  h.keptBut (hb.frame fun _ => False) (fun p hp => hp.elim)

/-- A library function that lays one row. -/
theorem acall_row {P : Program} {w0 : World} {m : Frag} {f : FuncId} {args : Array Value} {l : List Value} {e : TypeId} {k : Nat} (hs : w0.ShapedOpen P) (hl : l.length = k)
    (h : ∀ w : World, w.ShapedOpen P → Calls P f args w fun e' w' => e' = .returned (.slice (some ⟨w.heap.size, 0, Option.none⟩) k k) ∧ w' = w.alloc (.cells l.toArray e)) :
    ACall P w0 f args m fun v m' => OwnR w0 m m' 1 e v k l := by
  intro w hw
  refine (h w (shaped_below hs hw.below)).mono fun e' w' ⟨h1, h2⟩ => ?_
  subst h2
  have hlen : l.toArray.size = k := by simpa using hl
  have hb : BlkFits (.cells l l.length e) (some (.cells l.toArray e)) := ⟨_, _, rfl, by simp, Or.inl rfl, fun i v hv => by simpa using hv⟩
  exact ⟨_, m.set w.heap.size (.cells l l.length e), h1, OwnR.new hw.below.size hw.fresh (by omega) (by omega) (Ext.refl _), Fits.set_new hw hb, Keeps.set_new⟩

theorem c_Split {w0 : World} {m : Frag} {s sep : ByteArray} (hw : w0.ShapedOpen Tryd.prog) (hs : s.size < 4294967281) (h1 : 1 ≤ sep.size) :
    ACall Tryd.prog w0 n_strings_Split #[.string s, .string sep] m fun v m' => OwnR w0 m m' 1 t_string v (Lib.countB s sep + 1) ((Lib.splitB sep 0 (Lib.countB s sep) s).map Value.string) := by
  refine acall_row hw ?_ fun w h => Tryd.strings_Split_shaped s sep w h hs h1
  rw [List.length_map, Lib.splitB_all sep h1 0 _ s rfl]

/-- The words of a text, as the library cuts it. -/
def splitF (s : ByteArray) : List ByteArray := Lib.splitB (bys [32]) 0 (Lib.countB s (bys [32])) s
theorem splitF_len (s : ByteArray) : (splitF s).length = Lib.countB s (bys [32]) + 1 := Lib.splitB_all _ (Nat.le_of_eq rfl) 0 _ s rfl

theorem c_wordsOf {w0 : World} {m : Frag} {s : ByteArray} (hw : w0.ShapedOpen Tryd.prog) (hs : s.size ≤ 2 ^ 30) (hl : (splitF s).length ≤ 2 ^ 31) :
    ACall Tryd.prog w0 n_impl_wordsOf #[.string s] m fun v m' => OwnR w0 m m' 1 t_string v ((splitF s).filter fun x => decide (¬ x = bys [])).length (((splitF s).filter fun x => decide (¬ x = bys [])).map Value.string) := by
  refine acall_x mo x_impl_wordsOf (by rw [p_impl_wordsOf]; exact Nat.le_of_ble_eq_true rfl) ?_
  unfold r_impl_wordsOf
  simp -dsimp (disch := first | omega | (simp only [bys_size, ByteArray.size_append, List.length_cons, List.length_nil] ; omega)) only [xrun, ↓xpre, ↓reduceIte, xval, xops, boolV, nilV, nilN, List.map_cons, List.map_nil, Nat.reduceEqDiff, Nat.reduceAdd, Nat.reduceMul, Nat.reduceLeDiff, Int.toNat_natCast, Nat.zero_add, Nat.add_zero, Nat.mul_one, Nat.zero_mul, Int.reduceToNat, zero_ne_one', one_ne_zero', Bool.not_true, Bool.not_false, ← decide_not, Option.isNone_none, Option.isNone_some, List.length_cons, List.length_nil, List.take_zero, List.drop_zero, List.drop_succ_cons, List.take_succ_cons, List.nil_append, List.append_nil, List.cons_append, List.headD_cons, Bool.false_eq_true, decide_true, decide_false, cells_int, cells_str, cells_bool, cells_sl, cells_ptr, cells_agg, guardH_of, and_true, true_and, List.all_cons, List.all_nil, oneC, Bool.and_true, Bool.and_self, set_set, and_self, splice, List.drop_nil, List.take_nil, ne_eq, not_false_eq_true, w64, w8, bys_size, ByteArray.size_append, cellsOf_set, Option.bind_some, int_bne, int_beq, str_beq, List.length_map, row_set, row_ne]
  refine callH_of (c_Split hw (by omega) (Nat.le_of_eq rfl)) ?_
  intro p mP hparts
  rw [← splitF_len] at hparts
  have hx := hparts.keep
  have hsl := strs_sl (xs := splitF s) hparts (by omega)
  obtain ⟨bp, cp, rfl⟩ := slT_sl hsl
  simp -dsimp (disch := first | omega | (simp only [bys_size, ByteArray.size_append, List.length_cons, List.length_nil] ; omega)) only [xrun, ↓xpre, ↓reduceIte, xval, xops, boolV, nilV, nilN, List.map_cons, List.map_nil, Nat.reduceEqDiff, Nat.reduceAdd, Nat.reduceMul, Nat.reduceLeDiff, Int.toNat_natCast, Nat.zero_add, Nat.add_zero, Nat.mul_one, Nat.zero_mul, Int.reduceToNat, zero_ne_one', one_ne_zero', Bool.not_true, Bool.not_false, ← decide_not, Option.isNone_none, Option.isNone_some, List.length_cons, List.length_nil, List.take_zero, List.drop_zero, List.drop_succ_cons, List.take_succ_cons, List.nil_append, List.append_nil, List.cons_append, List.headD_cons, Bool.false_eq_true, decide_true, decide_false, cells_int, cells_str, cells_bool, cells_sl, cells_ptr, cells_agg, guardH_of, and_true, true_and, List.all_cons, List.all_nil, oneC, Bool.and_true, Bool.and_self, set_set, and_self, splice, List.drop_nil, List.take_nil, ne_eq, not_false_eq_true, w64, w8, bys_size, ByteArray.size_append, cellsOf_set, Option.bind_some, int_bne, int_beq, str_beq, List.length_map, row_set, row_ne]
  refine loopH_of (fun r t m' => ∃ (i : Nat) (v : Value), i ≤ (splitF s).length ∧ r = (splitF s).length - i ∧ t 3 = v ∧ t 7 = .slice bp (splitF s).length cp ∧ t 8 = .int .i64 (splitF s).length ∧ t 9 = .int .i64 i ∧
    OwnR w0 mP m' 1 t_string v (((splitF s).take i).filter fun x => decide (¬ x = bys [])).length ((((splitF s).take i).filter fun x => decide (¬ x = bys [])).map Value.string)) (splitF s).length ⟨0, _, by omega, rfl, rfl, rfl, rfl, rfl, OwnR.nil (Ext.refl _)⟩ ?_
  rintro r t m' ⟨i, v, hi, rfl, h3, h7, h8, h9, ho⟩
  simp -dsimp (disch := first | omega | (simp only [bys_size, ByteArray.size_append, List.length_cons, List.length_nil] ; omega)) only [xrun, ↓xpre, ↓reduceIte, xval, xops, boolV, nilV, nilN, List.map_cons, List.map_nil, Nat.reduceEqDiff, Nat.reduceAdd, Nat.reduceMul, Nat.reduceLeDiff, Int.toNat_natCast, Nat.zero_add, Nat.add_zero, Nat.mul_one, Nat.zero_mul, Int.reduceToNat, zero_ne_one', one_ne_zero', Bool.not_true, Bool.not_false, ← decide_not, Option.isNone_none, Option.isNone_some, List.length_cons, List.length_nil, List.take_zero, List.drop_zero, List.drop_succ_cons, List.take_succ_cons, List.nil_append, List.append_nil, List.cons_append, List.headD_cons, Bool.false_eq_true, decide_true, decide_false, cells_int, cells_str, cells_bool, cells_sl, cells_ptr, cells_agg, guardH_of, and_true, true_and, List.all_cons, List.all_nil, oneC, Bool.and_true, Bool.and_self, set_set, and_self, splice, List.drop_nil, List.take_nil, ne_eq, not_false_eq_true, w64, w8, bys_size, ByteArray.size_append, cellsOf_set, Option.bind_some, int_bne, int_beq, str_beq, List.length_map, row_set, row_ne, h3, h7, h8, h9]
  refine condH_of (fun h => ?_) (fun h => ?_)
  · have hi' : i < ((splitF s).map strC).length := by rw [List.length_map]; omega
    obtain ⟨b3, o3, cs3, rfl, hr, hl1, -, hat⟩ := slT_at (slT_ext ho.keep hsl) hi'
    have e1 := hat 0 1 (by omega)
    simp only [List.getElem_map, strC, List.drop_zero, Nat.add_zero, Nat.mul_one, List.take_succ_cons, List.take_zero, List.length_map] at e1 hl1
    have hlt : i < (splitF s).length := by omega
    simp -dsimp (disch := first | omega | (simp only [bys_size, ByteArray.size_append, List.length_cons, List.length_nil] ; omega)) only [xrun, ↓xpre, ↓reduceIte, xval, xops, boolV, nilV, nilN, List.map_cons, List.map_nil, Nat.reduceEqDiff, Nat.reduceAdd, Nat.reduceMul, Nat.reduceLeDiff, Int.toNat_natCast, Nat.zero_add, Nat.add_zero, Nat.mul_one, Nat.zero_mul, Int.reduceToNat, zero_ne_one', one_ne_zero', Bool.not_true, Bool.not_false, ← decide_not, Option.isNone_none, Option.isNone_some, List.length_cons, List.length_nil, List.take_zero, List.drop_zero, List.drop_succ_cons, List.take_succ_cons, List.nil_append, List.append_nil, List.cons_append, List.headD_cons, Bool.false_eq_true, decide_true, decide_false, cells_int, cells_str, cells_bool, cells_sl, cells_ptr, cells_agg, guardH_of, and_true, true_and, List.all_cons, List.all_nil, oneC, Bool.and_true, Bool.and_self, set_set, and_self, splice, List.drop_nil, List.take_nil, ne_eq, not_false_eq_true, w64, w8, bys_size, ByteArray.size_append, cellsOf_set, Option.bind_some, int_bne, int_beq, str_beq, List.length_map, row_set, row_ne, h3, h7, h8, h9, hr, e1]
    have htk := List.take_succ_eq_append_getElem hlt
    refine condH_of (fun hq => ?_) (fun hq => ?_)
    · simp -dsimp (disch := first | omega | (simp only [bys_size, ByteArray.size_append, List.length_cons, List.length_nil] ; omega)) only [xrun, ↓xpre, ↓reduceIte, xval, xops, boolV, nilV, nilN, List.map_cons, List.map_nil, Nat.reduceEqDiff, Nat.reduceAdd, Nat.reduceMul, Nat.reduceLeDiff, Int.toNat_natCast, Nat.zero_add, Nat.add_zero, Nat.mul_one, Nat.zero_mul, Int.reduceToNat, zero_ne_one', one_ne_zero', Bool.not_true, Bool.not_false, ← decide_not, Option.isNone_none, Option.isNone_some, List.length_cons, List.length_nil, List.take_zero, List.drop_zero, List.drop_succ_cons, List.take_succ_cons, List.nil_append, List.append_nil, List.cons_append, List.headD_cons, Bool.false_eq_true, decide_true, decide_false, cells_int, cells_str, cells_bool, cells_sl, cells_ptr, cells_agg, guardH_of, and_true, true_and, List.all_cons, List.all_nil, oneC, Bool.and_true, Bool.and_self, set_set, and_self, splice, List.drop_nil, List.take_nil, ne_eq, not_false_eq_true, w64, w8, bys_size, ByteArray.size_append, cellsOf_set, Option.bind_some, int_bne, int_beq, str_beq, List.length_map, row_set, row_ne, h3, h7, h8, h9, hr, e1]
      intro b' hB' hb'
      simp -dsimp (disch := first | omega | (simp only [bys_size, ByteArray.size_append, List.length_cons, List.length_nil] ; omega)) only [xrun, ↓xpre, ↓reduceIte, xval, xops, boolV, nilV, nilN, List.map_cons, List.map_nil, Nat.reduceEqDiff, Nat.reduceAdd, Nat.reduceMul, Nat.reduceLeDiff, Int.toNat_natCast, Nat.zero_add, Nat.add_zero, Nat.mul_one, Nat.zero_mul, Int.reduceToNat, zero_ne_one', one_ne_zero', Bool.not_true, Bool.not_false, ← decide_not, Option.isNone_none, Option.isNone_some, List.length_cons, List.length_nil, List.take_zero, List.drop_zero, List.drop_succ_cons, List.take_succ_cons, List.nil_append, List.append_nil, List.cons_append, List.headD_cons, Bool.false_eq_true, decide_true, decide_false, cells_int, cells_str, cells_bool, cells_sl, cells_ptr, cells_agg, guardH_of, and_true, true_and, List.all_cons, List.all_nil, oneC, Bool.and_true, Bool.and_self, set_set, and_self, splice, List.drop_nil, List.take_nil, ne_eq, not_false_eq_true, w64, w8, bys_size, ByteArray.size_append, cellsOf_set, Option.bind_some, int_bne, int_beq, str_beq, List.length_map, row_set, row_ne, h3, h7, h8, h9]
      have hfl := List.length_filter_le (fun x => decide (¬ x = bys [])) ((splitF s).take i)
      rw [List.length_take] at hfl
      refine apH_own (ho.ext (Ext.set _ hb')) (src_one (e := t_string) hB' (Frag.set_same _ _ _) rfl) (by intro y hy; cases hy with | head => rfl | tail _ h => cases h) (by omega) ?_
      intro v2 m2' ho2
      simp -dsimp (disch := first | omega | (simp only [bys_size, ByteArray.size_append, List.length_cons, List.length_nil] ; omega)) only [xrun, ↓xpre, ↓reduceIte, xval, xops, boolV, nilV, nilN, List.map_cons, List.map_nil, Nat.reduceEqDiff, Nat.reduceAdd, Nat.reduceMul, Nat.reduceLeDiff, Int.toNat_natCast, Nat.zero_add, Nat.add_zero, Nat.mul_one, Nat.zero_mul, Int.reduceToNat, zero_ne_one', one_ne_zero', Bool.not_true, Bool.not_false, ← decide_not, Option.isNone_none, Option.isNone_some, List.length_cons, List.length_nil, List.take_zero, List.drop_zero, List.drop_succ_cons, List.take_succ_cons, List.nil_append, List.append_nil, List.cons_append, List.headD_cons, Bool.false_eq_true, decide_true, decide_false, cells_int, cells_str, cells_bool, cells_sl, cells_ptr, cells_agg, guardH_of, and_true, true_and, List.all_cons, List.all_nil, oneC, Bool.and_true, Bool.and_self, set_set, and_self, splice, List.drop_nil, List.take_nil, ne_eq, not_false_eq_true, w64, w8, bys_size, ByteArray.size_append, cellsOf_set, Option.bind_some, int_bne, int_beq, str_beq, List.length_map, row_set, row_ne, h3, h7, h8, h9]
      refine nextI_of ((splitF s).length - (i + 1)) (by omega) ⟨i + 1, v2, by omega, rfl, rfl, h7, h8, rfl, ?_⟩
      rw [htk, List.filter_append, List.filter_cons_of_pos (by simpa using hq)]
      simpa using ho2
    · simp -dsimp (disch := first | omega | (simp only [bys_size, ByteArray.size_append, List.length_cons, List.length_nil] ; omega)) only [xrun, ↓xpre, ↓reduceIte, xval, xops, boolV, nilV, nilN, List.map_cons, List.map_nil, Nat.reduceEqDiff, Nat.reduceAdd, Nat.reduceMul, Nat.reduceLeDiff, Int.toNat_natCast, Nat.zero_add, Nat.add_zero, Nat.mul_one, Nat.zero_mul, Int.reduceToNat, zero_ne_one', one_ne_zero', Bool.not_true, Bool.not_false, ← decide_not, Option.isNone_none, Option.isNone_some, List.length_cons, List.length_nil, List.take_zero, List.drop_zero, List.drop_succ_cons, List.take_succ_cons, List.nil_append, List.append_nil, List.cons_append, List.headD_cons, Bool.false_eq_true, decide_true, decide_false, cells_int, cells_str, cells_bool, cells_sl, cells_ptr, cells_agg, guardH_of, and_true, true_and, List.all_cons, List.all_nil, oneC, Bool.and_true, Bool.and_self, set_set, and_self, splice, List.drop_nil, List.take_nil, ne_eq, not_false_eq_true, w64, w8, bys_size, ByteArray.size_append, cellsOf_set, Option.bind_some, int_bne, int_beq, str_beq, List.length_map, row_set, row_ne, h3, h7, h8, h9]
      refine nextI_of ((splitF s).length - (i + 1)) (by omega) ⟨i + 1, v, by omega, rfl, h3, h7, h8, rfl, ?_⟩
      rw [htk, List.filter_append, List.filter_cons_of_neg (by simpa using hq)]
      simpa using ho
  · have : i = (splitF s).length := by omega
    subst this
    simp -dsimp (disch := first | omega | (simp only [bys_size, ByteArray.size_append, List.length_cons, List.length_nil] ; omega)) only [xrun, ↓xpre, ↓reduceIte, xval, xops, boolV, nilV, nilN, List.map_cons, List.map_nil, Nat.reduceEqDiff, Nat.reduceAdd, Nat.reduceMul, Nat.reduceLeDiff, Int.toNat_natCast, Nat.zero_add, Nat.add_zero, Nat.mul_one, Nat.zero_mul, Int.reduceToNat, zero_ne_one', one_ne_zero', Bool.not_true, Bool.not_false, ← decide_not, Option.isNone_none, Option.isNone_some, List.length_cons, List.length_nil, List.take_zero, List.drop_zero, List.drop_succ_cons, List.take_succ_cons, List.nil_append, List.append_nil, List.cons_append, List.headD_cons, Bool.false_eq_true, decide_true, decide_false, cells_int, cells_str, cells_bool, cells_sl, cells_ptr, cells_agg, guardH_of, and_true, true_and, List.all_cons, List.all_nil, oneC, Bool.and_true, Bool.and_self, set_set, and_self, splice, List.drop_nil, List.take_nil, ne_eq, not_false_eq_true, w64, w8, bys_size, ByteArray.size_append, cellsOf_set, Option.bind_some, int_bne, int_beq, str_beq, List.length_map, row_set, row_ne, h3, h7, h8, h9]
    refine wkH_self ?_
    rw [List.take_length] at ho
    exact ho.base hx

end Go.Proofs.YtemaflbbcihilaaDoor.Fl
