/- Sizes, copies and likeness of rows; texts of numbers and rows, told by contract. No conditions. -/
import Derived.Test.YtemaflbbcihilaaDoorV2
namespace Go.Proofs.YtemaflbbcihilaaDoor.Fl
open Go Go.RowKit
set_option linter.unusedSimpArgs false
set_option linter.unusedVariables false

theorem c_szRow {w0 : World} {m : Frag} {r : RowM} {z : Int} (hs : r.s.size ≤ 9223372036854775807) (hz : 0 ≤ z ∧ z ≤ 2 ^ 62) : ACall Tryd.prog w0 n_laws_szRow #[.agg (rowC r).toArray, .int .i64 z] m fun v m' => v = .int .i64 (if z < r.s.size then -1 else z - r.s.size) ∧ m' = m := by
  refine acall_x mo x_laws_szRow (by rw [p_laws_szRow]; exact Nat.le_of_ble_eq_true rfl) ?_
  unfold r_laws_szRow rowC
  simp -dsimp (disch := first | omega | (simp only [bys_size, ByteArray.size_append, List.length_cons, List.length_nil] ; omega)) only [xrun, ↓xpre, ↓reduceIte, xval, xops, xlib, boolV, nilV, nilN, oneC, splice, ne_eq, Nat.reduceEqDiff, Nat.reduceAdd, Nat.reduceMul, Nat.reduceLeDiff, Int.reduceToNat]
  intro n hn hm
  have hx := Ext.set (m := m) (n := n) (.cells [.int .i64 r.t, .int .i64 r.k, .int .i64 r.v, .string r.s] 4 t_laws_Row) hm
  simp -dsimp (disch := first | omega | (simp only [bys_size, ByteArray.size_append, List.length_cons, List.length_nil] ; omega)) only [xrun, ↓xpre, ↓reduceIte, xval, xops, xlib, boolV, nilV, nilN, oneC, splice, ne_eq, Nat.reduceEqDiff, Nat.reduceAdd, Nat.reduceMul, Nat.reduceLeDiff, Int.reduceToNat]
  refine condH_of (fun h => ?_) (fun h => ?_)
  · simp -dsimp (disch := first | omega | (simp only [bys_size, ByteArray.size_append, List.length_cons, List.length_nil] ; omega)) only [xrun, ↓xpre, ↓reduceIte, xval, xops, xlib, boolV, nilV, nilN, oneC, splice, ne_eq, Nat.reduceEqDiff, Nat.reduceAdd, Nat.reduceMul, Nat.reduceLeDiff, Int.reduceToNat]
    exact wkH_ext hx ⟨by rw [if_pos (by omega)], rfl⟩
  · simp -dsimp (disch := first | omega | (simp only [bys_size, ByteArray.size_append, List.length_cons, List.length_nil] ; omega)) only [xrun, ↓xpre, ↓reduceIte, xval, xops, xlib, boolV, nilV, nilN, oneC, splice, ne_eq, Nat.reduceEqDiff, Nat.reduceAdd, Nat.reduceMul, Nat.reduceLeDiff, Int.reduceToNat]
    exact wkH_ext hx ⟨by rw [if_neg (by omega)], rfl⟩

/-- What is left of a bound behind rows' texts. -/
def szL : List RowM → Int → Int
  | [], z => z
  | r :: l, z => if z < r.s.size then -1 else szL l (z - r.s.size)

def szRows (l : List RowM) (z : Int) : Int := if z < l.length then -1 else szL l (z - l.length)

theorem szL_le : ∀ {l : List RowM} {z : Int}, 0 ≤ z → 0 ≤ szL l z → szL l z ≤ z ∧ ∀ r ∈ l, (r.s.size : Int) ≤ z
  | [], z, _, _ => ⟨by simp [szL], by simp⟩
  | r :: l, z, h0, h => by
    unfold szL at h ⊢
    split at h
    · omega
    · rename_i hlt
      rw [if_neg hlt]
      obtain ⟨h1, h2⟩ := szL_le (by omega) h
      refine ⟨by omega, fun x hx => ?_⟩
      rcases List.mem_cons.1 hx with rfl | hx
      · omega
      · have := h2 x hx; omega

theorem c_szRowS {w0 : World} {m : Frag} {a : Value} {l : List RowM} {z : Int} (ha : slT w0 m 4 a (l.map rowC)) (hs : ∀ r ∈ l, r.s.size ≤ 9223372036854775807) (hz : 0 ≤ z ∧ z ≤ 2 ^ 61) : ACall Tryd.prog w0 n_laws_szRowS #[a, .int .i64 z] m fun v m' => v = .int .i64 (szRows l z) ∧ m' = m := by
  refine acall_x mo x_laws_szRowS (by rw [p_laws_szRowS]; exact Nat.le_of_ble_eq_true rfl) ?_
  have hle := slT_le ha
  simp only [List.length_map] at hle
  obtain ⟨ba, ca, rfl⟩ := slT_sl ha
  unfold r_laws_szRowS
  simp -dsimp (disch := first | omega | (simp only [bys_size, ByteArray.size_append, List.length_cons, List.length_nil] ; omega)) only [xrun, ↓xpre, ↓reduceIte, xval, xops, xlib, boolV, nilV, nilN, oneC, splice, ne_eq, Nat.reduceEqDiff, Nat.reduceAdd, Nat.reduceMul, Nat.reduceLeDiff, Int.reduceToNat]
  refine condH_of (fun h => ?_) (fun h => ?_)
  · simp -dsimp (disch := first | omega | (simp only [bys_size, ByteArray.size_append, List.length_cons, List.length_nil] ; omega)) only [xrun, ↓xpre, ↓reduceIte, xval, xops, xlib, boolV, nilV, nilN, oneC, splice, ne_eq, Nat.reduceEqDiff, Nat.reduceAdd, Nat.reduceMul, Nat.reduceLeDiff, Int.reduceToNat]
    exact wkH_self ⟨by unfold szRows; rw [if_pos (by omega)], rfl⟩
  · simp -dsimp (disch := first | omega | (simp only [bys_size, ByteArray.size_append, List.length_cons, List.length_nil] ; omega)) only [xrun, ↓xpre, ↓reduceIte, xval, xops, xlib, boolV, nilV, nilN, oneC, splice, ne_eq, Nat.reduceEqDiff, Nat.reduceAdd, Nat.reduceMul, Nat.reduceLeDiff, Int.reduceToNat]
    have hft : szRows l z = szL l (z - l.length) := by unfold szRows; rw [if_neg (by omega)]
    refine loopH_of (fun k t m' => m' = m ∧ ∃ (i : Nat) (y : Int), i ≤ l.length ∧ k = l.length - i ∧ t 0 = .slice ba l.length ca ∧ t 1 = .int .i64 y ∧ t 5 = .int .i64 i ∧ 0 ≤ y ∧ y ≤ z ∧ szL (l.drop i) y = szRows l z) l.length ⟨rfl, 0, _, by omega, rfl, rfl, rfl, rfl, by omega, by omega, by rw [hft]; rfl⟩ ?_
    rintro k t _ ⟨rfl, i, y, hi, rfl, h0, h1, h5, hy0, hyz, hp⟩
    simp -dsimp (disch := first | omega | (simp only [bys_size, ByteArray.size_append, List.length_cons, List.length_nil] ; omega)) only [xrun, ↓xpre, ↓reduceIte, xval, xops, xlib, boolV, nilV, nilN, oneC, splice, ne_eq, Nat.reduceEqDiff, Nat.reduceAdd, Nat.reduceMul, Nat.reduceLeDiff, Int.reduceToNat, h0, h1, h5]
    refine condH_of (fun hlt => ?_) (fun hge => ?_)
    · have hlt' : i < l.length := by omega
      have hi' : i < (l.map rowC).length := by rw [List.length_map]; exact hlt'
      obtain ⟨blk, o, cs, rfl, hr, hl1, hle4, hat⟩ := slT_at ha hi'
      have e1 := hat 0 4 (by omega)
      simp only [List.getElem_map, List.drop_zero, Nat.add_zero, List.length_map] at e1 hl1
      rw [List.take_of_length_le (show (rowC l[i]).length ≤ 4 from Nat.le_refl 4)] at e1
      rw [List.drop_eq_getElem_cons hlt', szL] at hp
      have hb4 : i * 4 + 4 ≤ l.length * 4 := by omega
      simp -dsimp (disch := first | omega | (simp only [bys_size, ByteArray.size_append, List.length_cons, List.length_nil] ; omega)) only [xrun, ↓xpre, ↓reduceIte, xval, xops, xlib, boolV, nilV, nilN, oneC, splice, ne_eq, Nat.reduceEqDiff, Nat.reduceAdd, Nat.reduceMul, Nat.reduceLeDiff, Int.reduceToNat, h0, h1, h5, hr, e1]
      refine callH_of (c_szRow (r := l[i]) (hs _ (List.getElem_mem hlt')) (by omega)) ?_
      rintro v m' ⟨rfl, rfl⟩
      simp -dsimp (disch := first | omega | (simp only [bys_size, ByteArray.size_append, List.length_cons, List.length_nil] ; omega)) only [xrun, ↓xpre, ↓reduceIte, xval, xops, xlib, boolV, nilV, nilN, oneC, splice, ne_eq, Nat.reduceEqDiff, Nat.reduceAdd, Nat.reduceMul, Nat.reduceLeDiff, Int.reduceToNat, h0, h1, h5]
      refine condH_of (fun hne => ?_) (fun heq => ?_)
      · have : y < l[i].s.size := by
          refine Int.not_le.1 fun h => ?_
          rw [if_neg (by omega)] at hne; omega
        rw [if_pos this] at hp
        simp -dsimp (disch := first | omega | (simp only [bys_size, ByteArray.size_append, List.length_cons, List.length_nil] ; omega)) only [xrun, ↓xpre, ↓reduceIte, xval, xops, xlib, boolV, nilV, nilN, oneC, splice, ne_eq, Nat.reduceEqDiff, Nat.reduceAdd, Nat.reduceMul, Nat.reduceLeDiff, Int.reduceToNat]
        exact wkH_self ⟨by rw [hp], rfl⟩
      · have hnlt : ¬ y < l[i].s.size := fun h => by rw [if_pos h] at heq; omega
        rw [if_neg hnlt] at hp
        simp -dsimp (disch := first | omega | (simp only [bys_size, ByteArray.size_append, List.length_cons, List.length_nil] ; omega)) only [xrun, ↓xpre, ↓reduceIte, xval, xops, xlib, boolV, nilV, nilN, oneC, splice, ne_eq, Nat.reduceEqDiff, Nat.reduceAdd, Nat.reduceMul, Nat.reduceLeDiff, Int.reduceToNat, h0, h1, h5]
        exact nextI_of (l.length - (i + 1)) (by omega) ⟨rfl, i + 1, _, by omega, rfl, h0, rfl, rfl, by omega, by omega, (by rw [if_neg hnlt]; exact hp)⟩
    · have : i = l.length := by omega
      subst this
      rw [List.drop_length, szL] at hp
      simp -dsimp (disch := first | omega | (simp only [bys_size, ByteArray.size_append, List.length_cons, List.length_nil] ; omega)) only [xrun, ↓xpre, ↓reduceIte, xval, xops, xlib, boolV, nilV, nilN, oneC, splice, ne_eq, Nat.reduceEqDiff, Nat.reduceAdd, Nat.reduceMul, Nat.reduceLeDiff, Int.reduceToNat, h0, h1, h5]
      exact wkH_self ⟨by rw [hp], rfl⟩

theorem c_toRow {w0 : World} {m : Frag} {r : RowM} : ACall Tryd.prog w0 n_laws_toRow #[.agg (rowC r).toArray] m fun v m' => v = .agg (rowC r).toArray ∧ m' = m := by
  refine acall_x mo x_laws_toRow (by rw [p_laws_toRow]; exact Nat.le_of_ble_eq_true rfl) ?_
  unfold r_laws_toRow rowC
  simp -dsimp (disch := first | omega | (simp only [bys_size, ByteArray.size_append, List.length_cons, List.length_nil] ; omega)) only [xrun, ↓xpre, ↓reduceIte, xval, xops, xlib, boolV, nilV, nilN, oneC, splice, ne_eq, Nat.reduceEqDiff, Nat.reduceAdd, Nat.reduceMul, Nat.reduceLeDiff, Int.reduceToNat]
  intro n hn hm
  simp -dsimp (disch := first | omega | (simp only [bys_size, ByteArray.size_append, List.length_cons, List.length_nil] ; omega)) only [xrun, ↓xpre, ↓reduceIte, xval, xops, xlib, boolV, nilV, nilN, oneC, splice, ne_eq, Nat.reduceEqDiff, Nat.reduceAdd, Nat.reduceMul, Nat.reduceLeDiff, Int.reduceToNat]
  intro n2 hn2 hm2
  have hne : n2 ≠ n := fun e => by subst e; rw [Frag.set_same] at hm2; cases hm2
  have hne' : n ≠ n2 := Ne.symm hne
  simp -dsimp (disch := first | omega | (simp only [bys_size, ByteArray.size_append, List.length_cons, List.length_nil] ; omega)) only [xrun, ↓xpre, ↓reduceIte, xval, xops, xlib, boolV, nilV, nilN, oneC, splice, ne_eq, Nat.reduceEqDiff, Nat.reduceAdd, Nat.reduceMul, Nat.reduceLeDiff, Int.reduceToNat, hne, hne']
  intro n3 hn3 hm3
  have hne3 : n3 ≠ n2 := fun e => by subst e; rw [Frag.set_same] at hm3; cases hm3
  have hne4 : n3 ≠ n := fun e => by subst e; rw [Frag.set_ne _ _ hne', Frag.set_same] at hm3; cases hm3
  have hm2' : m n2 = Option.none := by rw [Frag.set_ne _ _ hne] at hm2; exact hm2
  have hm3' : m n3 = Option.none := by rw [Frag.set_ne _ _ hne3, Frag.set_ne _ _ hne4] at hm3; exact hm3
  simp -dsimp (disch := first | omega | (simp only [bys_size, ByteArray.size_append, List.length_cons, List.length_nil] ; omega)) only [xrun, ↓xpre, ↓reduceIte, xval, xops, xlib, boolV, nilV, nilN, oneC, splice, ne_eq, Nat.reduceEqDiff, Nat.reduceAdd, Nat.reduceMul, Nat.reduceLeDiff, Int.reduceToNat, hne, hne', hne3, hne4, Ne.symm hne3, Ne.symm hne4, cellsOf_ne]
  refine wkH_ext (m' := m) ?_ ⟨rfl, rfl⟩
  intro q b hq
  have q1 : q ≠ n := fun e => by subst e; rw [hq] at hm; cases hm
  have q2 : q ≠ n2 := fun e => by subst e; rw [hq] at hm2'; cases hm2'
  have q3 : q ≠ n3 := fun e => by subst e; rw [hq] at hm3'; cases hm3'
  simp only [Frag.set_ne _ _ q1, Frag.set_ne _ _ q2, Frag.set_ne _ _ q3, hq]

theorem row_nb {w0 : World} {m : Frag} {n b : Nat} {cs : List Value} (h : row w0 m n = some cs) (hB : w0.heap.size ≤ b) (hb : m b = Option.none) : n ≠ b := fun e => by
  subst e; unfold row at h; rw [if_neg (by omega), hb] at h; cases h

theorem rows_len {l : List RowM} : (l.map rowC).flatten.length = l.length * 4 := by
  rw [flat_len (es := 4) (by intro c hc; obtain ⟨r, _, rfl⟩ := List.mem_map.1 hc; rfl), List.length_map]

theorem reps_len {z : List Value} {n : Nat} : (reps z n).length = n * z.length := by
  unfold reps; rw [List.length_flatten]; simp

theorem slT_row {w0 : World} {m : Frag} {blk o cap : Nat} {l : List RowM} (h : slT w0 m 4 (.slice (some ⟨blk, o, Option.none⟩) l.length cap) (l.map rowC)) {i : Nat} (hi : i < l.length) :
    ∃ cs, row w0 m blk = some cs ∧ o + l.length * 4 ≤ cs.length ∧ (cs.drop (o + i * 4)).take 4 = rowC l[i] := by
  obtain ⟨b, o', cs, hb, hr, hl, hle, hat⟩ := slT_at h (i := i) (by rw [List.length_map]; exact hi)
  cases hb
  have e1 := hat 0 4 (by omega)
  simp only [List.getElem_map, List.drop_zero, Nat.add_zero, List.length_map] at e1 hl
  rw [List.take_of_length_le (show (rowC l[i]).length ≤ 4 from Nat.le_refl 4)] at e1
  exact ⟨cs, hr, hl, e1⟩

theorem slT_some {w0 : World} {m : Frag} {es : Nat} {base : Option Addr} {n cap : Nat} {el : List (List Value)} (h : slT w0 m es (.slice base n cap) el) {i : Nat} (hi : i < el.length) : ∃ blk o, base = some ⟨blk, o, Option.none⟩ := by
  obtain ⟨b, o', cs, hb, _⟩ := slT_at h hi
  exact ⟨b, o', hb⟩

theorem c_toRowS {w0 : World} {m : Frag} {a : Value} {l : List RowM} (ha : slT w0 m 4 a (l.map rowC)) (hl : l.length ≤ 2 ^ 27) : ACall Tryd.prog w0 n_laws_toRowS #[a] m fun v m' => OwnR w0 m m' 4 t_impl_Row v l.length (l.map rowC).flatten := by
  refine acall_x mo x_laws_toRowS (by rw [p_laws_toRowS]; exact Nat.le_of_ble_eq_true rfl) ?_
  have hle := slT_le ha
  simp only [List.length_map] at hle
  obtain ⟨ba, ca, rfl⟩ := slT_sl ha
  unfold r_laws_toRowS
  simp -dsimp (disch := first | omega | (simp only [bys_size, ByteArray.size_append, List.length_cons, List.length_nil] ; omega)) only [xrun, ↓xpre, ↓reduceIte, xval, xops, xlib, boolV, nilV, nilN, oneC, splice, ne_eq, Nat.reduceEqDiff, Nat.reduceAdd, Nat.reduceMul, Nat.reduceLeDiff, Int.reduceToNat]
  intro b hB hb
  simp -dsimp (disch := first | omega | (simp only [bys_size, ByteArray.size_append, List.length_cons, List.length_nil] ; omega)) only [xrun, ↓xpre, ↓reduceIte, xval, xops, xlib, boolV, nilV, nilN, oneC, splice, ne_eq, Nat.reduceEqDiff, Nat.reduceAdd, Nat.reduceMul, Nat.reduceLeDiff, Int.reduceToNat]
  refine loopH_of (fun k t m' => ∃ (i : Nat), i ≤ l.length ∧ k = l.length - i ∧ t 0 = .slice ba l.length ca ∧ t 3 = .slice (some ⟨b, 0, Option.none⟩) l.length l.length ∧ t 4 = .int .i64 i ∧
    m' = m.set b (.cells (((l.take i).map rowC).flatten ++ reps [.int .i64 0, .int .i64 0, .int .i64 0, .string (bys [])] (l.length - i)) (l.length * 4) t_impl_Row)) l.length ⟨0, by omega, rfl, rfl, rfl, rfl, by simp⟩ ?_
  rintro k t _ ⟨i, hi, rfl, h0, h3, h4, rfl⟩
  simp -dsimp (disch := first | omega | (simp only [bys_size, ByteArray.size_append, List.length_cons, List.length_nil] ; omega)) only [xrun, ↓xpre, ↓reduceIte, xval, xops, xlib, boolV, nilV, nilN, oneC, splice, ne_eq, Nat.reduceEqDiff, Nat.reduceAdd, Nat.reduceMul, Nat.reduceLeDiff, Int.reduceToNat, h0, h3, h4]
  refine condH_of (fun hlt => ?_) (fun hge => ?_)
  · have hlt' : i < l.length := by omega
    obtain ⟨blk, o, rfl⟩ := slT_some ha (i := i) (by rw [List.length_map]; exact hlt')
    simp only [List.length_map] at ha
    obtain ⟨cs, hr, hl1, e1⟩ := slT_row ha hlt'
    have hnb := row_nb hr hB hb
    have hb4 : i * 4 + 4 ≤ l.length * 4 := by omega
    simp -dsimp (disch := first | omega | (simp only [bys_size, ByteArray.size_append, List.length_cons, List.length_nil] ; omega)) only [xrun, ↓xpre, ↓reduceIte, xval, xops, xlib, boolV, nilV, nilN, oneC, splice, ne_eq, Nat.reduceEqDiff, Nat.reduceAdd, Nat.reduceMul, Nat.reduceLeDiff, Int.reduceToNat, h0, h3, h4, hr, e1]
    refine callH_of (c_toRow (r := l[i])) ?_
    rintro v m' ⟨rfl, rfl⟩
    have l1 : (((l.take i).map rowC).flatten).length = i * 4 := by rw [rows_len, List.length_take, Nat.min_eq_left hi]
    have l2 := @reps_len [.int .i64 0, .int .i64 0, .int .i64 0, .string (bys [])] (l.length - i)
    simp only [List.length_cons, List.length_nil] at l2
    have g1 : (rowC l[i]).length = 4 := rfl
    have g2 : (rowC l[i]).all oneC = true := rfl
    simp -dsimp (disch := first | omega | (simp only [bys_size, ByteArray.size_append, List.length_cons, List.length_nil] ; omega)) only [xrun, ↓xpre, ↓reduceIte, xval, xops, xlib, boolV, nilV, nilN, oneC, splice, ne_eq, Nat.reduceEqDiff, Nat.reduceAdd, Nat.reduceMul, Nat.reduceLeDiff, Int.reduceToNat, h0, h3, h4, List.length_append, l1, l2, g1, g2]
    refine nextI_of (l.length - (i + 1)) (by omega) ⟨i + 1, by omega, rfl, h0, h3, rfl, ?_⟩
    congr 2
    have hsplit : reps [.int .i64 0, .int .i64 0, .int .i64 0, .string (bys [])] (l.length - i) = [.int .i64 0, .int .i64 0, .int .i64 0, .string (bys [])] ++ reps [.int .i64 0, .int .i64 0, .int .i64 0, .string (bys [])] (l.length - (i + 1)) := by
      unfold reps
      rw [show l.length - i = (l.length - (i + 1)) + 1 by omega, List.replicate_succ, List.flatten_cons]
    rw [List.take_succ_eq_append_getElem hlt', List.map_append, List.flatten_append, hsplit, List.take_append_of_le_length (by omega), List.take_of_length_le (by omega), List.drop_append, l1, List.drop_of_length_le (by omega), Nat.add_sub_cancel_left]
    simp [List.append_assoc]
  · have : i = l.length := by omega
    subst this
    simp -dsimp (disch := first | omega | (simp only [bys_size, ByteArray.size_append, List.length_cons, List.length_nil] ; omega)) only [xrun, ↓xpre, ↓reduceIte, xval, xops, xlib, boolV, nilV, nilN, oneC, splice, ne_eq, Nat.reduceEqDiff, Nat.reduceAdd, Nat.reduceMul, Nat.reduceLeDiff, Int.reduceToNat, h0, h3, h4]
    refine wkH_self ?_
    simp only [Nat.sub_self, List.take_length]
    exact OwnR.new hB hb rows_len rfl (by rw [show reps [.int .i64 0, .int .i64 0, .int .i64 0, .string (bys [])] 0 = [] from rfl, List.append_nil]; exact Ext.refl _)

theorem c_eqRow {w0 : World} {m : Frag} {a b : RowM} (he : a = b) : ACall Tryd.prog w0 n_laws_eqRow #[.agg (rowC a).toArray, .agg (rowC b).toArray] m fun v m' => v = .bool true ∧ m' = m := by
  subst he
  refine acall_x mo x_laws_eqRow (by rw [p_laws_eqRow]; exact Nat.le_of_ble_eq_true rfl) ?_
  unfold r_laws_eqRow rowC
  simp -dsimp (disch := first | omega | (simp only [bys_size, ByteArray.size_append, List.length_cons, List.length_nil] ; omega)) only [xrun, ↓xpre, ↓reduceIte, xval, xops, xlib, boolV, nilV, nilN, oneC, splice, ne_eq, Nat.reduceEqDiff, Nat.reduceAdd, Nat.reduceMul, Nat.reduceLeDiff, Int.reduceToNat]
  intro n hn hm
  simp -dsimp (disch := first | omega | (simp only [bys_size, ByteArray.size_append, List.length_cons, List.length_nil] ; omega)) only [xrun, ↓xpre, ↓reduceIte, xval, xops, xlib, boolV, nilV, nilN, oneC, splice, ne_eq, Nat.reduceEqDiff, Nat.reduceAdd, Nat.reduceMul, Nat.reduceLeDiff, Int.reduceToNat]
  intro n2 hn2 hm2
  have hne : n2 ≠ n := fun e => by subst e; rw [Frag.set_same] at hm2; cases hm2
  have hne' : n ≠ n2 := Ne.symm hne
  have hx := (Ext.set (m := m) (n := n) (.cells [.int .i64 a.t, .int .i64 a.k, .int .i64 a.v, .string a.s] 4 t_impl_Row) hm).trans (Ext.set (n := n2) (.cells [.int .i64 a.t, .int .i64 a.k, .int .i64 a.v, .string a.s] 4 t_impl_Row) hm2)
  simp -dsimp (disch := first | omega | (simp only [bys_size, ByteArray.size_append, List.length_cons, List.length_nil] ; omega)) only [xrun, ↓xpre, ↓reduceIte, xval, xops, xlib, boolV, nilV, nilN, oneC, splice, ne_eq, Nat.reduceEqDiff, Nat.reduceAdd, Nat.reduceMul, Nat.reduceLeDiff, Int.reduceToNat, hne, hne']
  exact wkH_ext hx ⟨rfl, rfl⟩

theorem c_eqRowS {w0 : World} {m : Frag} {a b : Value} {l : List RowM} (ha : slT w0 m 4 a (l.map rowC)) (hb : slT w0 m 4 b (l.map rowC)) :
    ACall Tryd.prog w0 n_laws_eqRowS #[a, b] m fun v m' => v = .bool true ∧ m' = m := by
  refine acall_x mo x_laws_eqRowS (by rw [p_laws_eqRowS]; exact Nat.le_of_ble_eq_true rfl) ?_
  have hle := slT_le ha
  simp only [List.length_map] at hle
  obtain ⟨ba, ca, rfl⟩ := slT_sl ha
  obtain ⟨bb, cb, rfl⟩ := slT_sl hb
  unfold r_laws_eqRowS
  simp -dsimp (disch := first | omega | (simp only [bys_size, ByteArray.size_append, List.length_cons, List.length_nil] ; omega)) only [xrun, ↓xpre, ↓reduceIte, xval, xops, xlib, boolV, nilV, nilN, oneC, splice, ne_eq, Nat.reduceEqDiff, Nat.reduceAdd, Nat.reduceMul, Nat.reduceLeDiff, Int.reduceToNat]
  refine loopH_of (fun k t m' => m' = m ∧ ∃ i : Nat, i ≤ l.length ∧ k = l.length - i ∧ t 0 = .slice ba l.length ca ∧ t 1 = .slice bb l.length cb ∧ t 5 = .int .i64 i) l.length ⟨rfl, 0, by omega, rfl, rfl, rfl, rfl⟩ ?_
  rintro k t _ ⟨rfl, i, hi, rfl, h0, h1, h5⟩
  simp -dsimp (disch := first | omega | (simp only [bys_size, ByteArray.size_append, List.length_cons, List.length_nil] ; omega)) only [xrun, ↓xpre, ↓reduceIte, xval, xops, xlib, boolV, nilV, nilN, oneC, splice, ne_eq, Nat.reduceEqDiff, Nat.reduceAdd, Nat.reduceMul, Nat.reduceLeDiff, Int.reduceToNat, h0, h1, h5]
  refine condH_of (fun hlt => ?_) (fun hge => ?_)
  · have hlt' : i < l.length := by omega
    obtain ⟨blk, o, rfl⟩ := slT_some ha (i := i) (by rw [List.length_map]; exact hlt')
    obtain ⟨blk2, o2, rfl⟩ := slT_some hb (i := i) (by rw [List.length_map]; exact hlt')
    simp only [List.length_map] at ha hb
    obtain ⟨cs, hr, hl1, e1⟩ := slT_row ha hlt'
    obtain ⟨cs2, hr2, hl2, e2⟩ := slT_row hb hlt'
    have hb4 : i * 4 + 4 ≤ l.length * 4 := by omega
    simp -dsimp (disch := first | omega | (simp only [bys_size, ByteArray.size_append, List.length_cons, List.length_nil] ; omega)) only [xrun, ↓xpre, ↓reduceIte, xval, xops, xlib, boolV, nilV, nilN, oneC, splice, ne_eq, Nat.reduceEqDiff, Nat.reduceAdd, Nat.reduceMul, Nat.reduceLeDiff, Int.reduceToNat, h0, h1, h5, hr, hr2, e1, e2]
    refine callH_of (c_eqRow (a := l[i]) (b := l[i]) rfl) ?_
    rintro v m' ⟨rfl, rfl⟩
    simp -dsimp (disch := first | omega | (simp only [bys_size, ByteArray.size_append, List.length_cons, List.length_nil] ; omega)) only [xrun, ↓xpre, ↓reduceIte, xval, xops, xlib, boolV, nilV, nilN, oneC, splice, ne_eq, Nat.reduceEqDiff, Nat.reduceAdd, Nat.reduceMul, Nat.reduceLeDiff, Int.reduceToNat, h0, h1, h5]
    exact nextI_of (l.length - (i + 1)) (by omega) ⟨rfl, i + 1, by omega, rfl, h0, h1, rfl⟩
  · have : i = l.length := by omega
    subst this
    simp -dsimp (disch := first | omega | (simp only [bys_size, ByteArray.size_append, List.length_cons, List.length_nil] ; omega)) only [xrun, ↓xpre, ↓reduceIte, xval, xops, xlib, boolV, nilV, nilN, oneC, splice, ne_eq, Nat.reduceEqDiff, Nat.reduceAdd, Nat.reduceMul, Nat.reduceLeDiff, Int.reduceToNat, h0, h1, h5]
    exact wkH_self ⟨rfl, rfl⟩

theorem c_eqTextResult {w0 : World} {m : Frag} {c : Int} {s : ByteArray} : ACall Tryd.prog w0 n_laws_eqTextResult #[.agg #[.int .i64 c, .string s], .agg #[.int .i64 c, .string s]] m fun v m' => v = .bool true ∧ m' = m := by
  refine acall_x mo x_laws_eqTextResult (by rw [p_laws_eqTextResult]; exact Nat.le_of_ble_eq_true rfl) ?_
  unfold r_laws_eqTextResult
  simp -dsimp (disch := first | omega | (simp only [bys_size, ByteArray.size_append, List.length_cons, List.length_nil] ; omega)) only [xrun, ↓xpre, ↓reduceIte, xval, xops, xlib, boolV, nilV, nilN, oneC, splice, ne_eq, Nat.reduceEqDiff, Nat.reduceAdd, Nat.reduceMul, Nat.reduceLeDiff, Int.reduceToNat]
  intro n hn hm
  simp -dsimp (disch := first | omega | (simp only [bys_size, ByteArray.size_append, List.length_cons, List.length_nil] ; omega)) only [xrun, ↓xpre, ↓reduceIte, xval, xops, xlib, boolV, nilV, nilN, oneC, splice, ne_eq, Nat.reduceEqDiff, Nat.reduceAdd, Nat.reduceMul, Nat.reduceLeDiff, Int.reduceToNat]
  intro n2 hn2 hm2
  have hne : n2 ≠ n := fun e => by subst e; rw [Frag.set_same] at hm2; cases hm2
  have hne' : n ≠ n2 := Ne.symm hne
  have hx := (Ext.set (m := m) (n := n) (.cells [.int .i64 c, .string s] 2 t_impl_TextResult) hm).trans (Ext.set (n := n2) (.cells [.int .i64 c, .string s] 2 t_impl_TextResult) hm2)
  simp -dsimp (disch := first | omega | (simp only [bys_size, ByteArray.size_append, List.length_cons, List.length_nil] ; omega)) only [xrun, ↓xpre, ↓reduceIte, xval, xops, xlib, boolV, nilV, nilN, oneC, splice, ne_eq, Nat.reduceEqDiff, Nat.reduceAdd, Nat.reduceMul, Nat.reduceLeDiff, Int.reduceToNat, hne, hne']
  exact wkH_ext hx ⟨rfl, rfl⟩

end Go.Proofs.YtemaflbbcihilaaDoor.Fl
