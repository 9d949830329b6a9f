/- Texts of rows, told by contract; the law of RowsText. No conditions. -/
import Derived.Test.YtemaflbbcihilaaDoorV4
namespace Go.Proofs.YtemaflbbcihilaaDoor.Fl
open Go Go.RowKit
set_option linter.unusedSimpArgs false
set_option linter.unusedVariables false

theorem c_l1DigitsI {w0 : World} {m : Frag} {n : Int} (h0 : 0 ≤ n) (hn : n ≤ 2 ^ 62) : ACall Tryd.prog w0 n_spec_l1Digits #[.int .i64 n] m fun v m' => v = .string (dg n) ∧ m' = m := by
  obtain ⟨k, rfl⟩ := Int.eq_ofNat_of_zero_le h0
  exact c_l1Digits k (by omega) m

theorem rowF_ok {r : RowM} (h : rowF r = 0) : 0 ≤ r.t ∧ r.t ≤ 3 ∧ 1 ≤ r.k ∧ r.k ≤ 99 ∧ 0 ≤ r.v ∧ r.v ≤ 999 ∧ r.s.size ≤ 8 ∧ textB r.s = true := by
  unfold rowF at h
  split at h
  · rename_i h1
    split at h
    · rename_i h2
      simp only [inB, Bool.and_eq_true, decide_eq_true_eq] at h1
      have h3 := h2
      simp only [textB, Bool.and_eq_true, decide_eq_true_eq] at h3
      exact ⟨h1.1.1.1, h1.1.1.2, h1.1.2.1, h1.1.2.2, h1.2.1, h1.2.2, h3.2, h2⟩
    · cases h
  · cases h

/-- A row's text. -/
def rowTx (r : RowM) : ByteArray :=
  let o := dg r.t ++ bys [32] ++ dg r.k ++ bys [32] ++ dg r.v
  if r.s = bys [] then o else o ++ bys [32] ++ r.s

theorem rowTx_size {r : RowM} (h : rowF r = 0) : (rowTx r).size ≤ 74 := by
  obtain ⟨h1, h2, h3, h4, h5, h6, h7, -⟩ := rowF_ok h
  have s1 := dg_size (n := r.t) (by omega) (by omega)
  have s2 := dg_size (n := r.k) (by omega) (by omega)
  have s3 := dg_size (n := r.v) (by omega) (by omega)
  unfold rowTx
  split <;> simp only [ByteArray.size_append, bys_size, List.length_cons, List.length_nil] <;> omega

theorem c_l1RowText {w0 : World} {m : Frag} {p : Value} {r : RowM} (hp : ptrT w0 m p (rowC r)) (hok : rowF r = 0) : ACall Tryd.prog w0 n_spec_l1RowText #[p] m fun v m' => v = .string (rowTx r) ∧ m' = m := by
  refine acall_x mo x_spec_l1RowText (by rw [p_spec_l1RowText]; exact Nat.le_of_ble_eq_true rfl) ?_
  obtain ⟨h1, h2, h3, h4, h5, h6, h7, -⟩ := rowF_ok hok
  have s1 := dg_size (n := r.t) (by omega) (by omega)
  have s2 := dg_size (n := r.k) (by omega) (by omega)
  have s3 := dg_size (n := r.v) (by omega) (by omega)
  obtain ⟨n, o, cs, rest, rfl, hr, hl, h0, hat⟩ := ptrT_at hp
  have a1 := hat 1 (by show 1 ≤ 4; omega)
  have a2 := hat 2 (by show 2 ≤ 4; omega)
  have a3 := hat 3 (by show 3 ≤ 4; omega)
  simp only [rowC, List.drop_succ_cons, List.drop_zero, List.length_cons, List.length_nil] at hl h0 a1 a2 a3
  unfold r_spec_l1RowText
  simp -dsimp (disch := first | omega | (simp only [bys_size, ByteArray.size_append, List.length_cons, List.length_nil] ; omega)) only [xrun, ↓xpre, ↓reduceIte, xval, xops, xlib, boolV, nilV, nilN, oneC, splice, ne_eq, Nat.reduceEqDiff, Nat.reduceAdd, Nat.reduceMul, Nat.reduceLeDiff, Int.reduceToNat, hr, h0, a1, a2]
  refine callH_of (c_l1DigitsI h1 (by omega)) ?_
  rintro v m' ⟨rfl, rfl⟩
  simp -dsimp (disch := first | omega | (simp only [bys_size, ByteArray.size_append, List.length_cons, List.length_nil] ; omega)) only [xrun, ↓xpre, ↓reduceIte, xval, xops, xlib, boolV, nilV, nilN, oneC, splice, ne_eq, Nat.reduceEqDiff, Nat.reduceAdd, Nat.reduceMul, Nat.reduceLeDiff, Int.reduceToNat]
  refine callH_of (c_l1DigitsI (by omega) (by omega)) ?_
  rintro v m' ⟨rfl, rfl⟩
  simp -dsimp (disch := first | omega | (simp only [bys_size, ByteArray.size_append, List.length_cons, List.length_nil] ; omega)) only [xrun, ↓xpre, ↓reduceIte, xval, xops, xlib, boolV, nilV, nilN, oneC, splice, ne_eq, Nat.reduceEqDiff, Nat.reduceAdd, Nat.reduceMul, Nat.reduceLeDiff, Int.reduceToNat]
  refine callH_of (c_l1DigitsI h5 (by omega)) ?_
  rintro v m' ⟨rfl, rfl⟩
  simp -dsimp (disch := first | omega | (simp only [bys_size, ByteArray.size_append, List.length_cons, List.length_nil] ; omega)) only [xrun, ↓xpre, ↓reduceIte, xval, xops, xlib, boolV, nilV, nilN, oneC, splice, ne_eq, Nat.reduceEqDiff, Nat.reduceAdd, Nat.reduceMul, Nat.reduceLeDiff, Int.reduceToNat, hr, a3]
  refine condH_of (fun h => ?_) (fun h => ?_)
  · simp -dsimp (disch := first | omega | (simp only [bys_size, ByteArray.size_append, List.length_cons, List.length_nil] ; omega)) only [xrun, ↓xpre, ↓reduceIte, xval, xops, xlib, boolV, nilV, nilN, oneC, splice, ne_eq, Nat.reduceEqDiff, Nat.reduceAdd, Nat.reduceMul, Nat.reduceLeDiff, Int.reduceToNat, hr, a3]
    exact wkH_self ⟨by unfold rowTx; rw [if_neg h], rfl⟩
  · simp -dsimp (disch := first | omega | (simp only [bys_size, ByteArray.size_append, List.length_cons, List.length_nil] ; omega)) only [xrun, ↓xpre, ↓reduceIte, xval, xops, xlib, boolV, nilV, nilN, oneC, splice, ne_eq, Nat.reduceEqDiff, Nat.reduceAdd, Nat.reduceMul, Nat.reduceLeDiff, Int.reduceToNat]
    exact wkH_self ⟨by unfold rowTx; rw [if_pos (Classical.not_not.1 h)], rfl⟩

theorem c_rowText {w0 : World} {m : Frag} {r : RowM} (ht : TabOk w0) (hok : rowF r = 0) : ACall Tryd.prog w0 n_impl_rowText #[.agg (rowC r).toArray] m fun v m' => v = .string (rowTx r) ∧ m' = m := by
  refine acall_x mo x_impl_rowText (by rw [p_impl_rowText]; exact Nat.le_of_ble_eq_true rfl) ?_
  obtain ⟨h1, h2, h3, h4, h5, h6, h7, -⟩ := rowF_ok hok
  have s1 := dg_size (n := r.t) (by omega) (by omega)
  have s2 := dg_size (n := r.k) (by omega) (by omega)
  have s3 := dg_size (n := r.v) (by omega) (by omega)
  unfold r_impl_rowText rowC
  simp -dsimp (disch := first | omega | (simp only [bys_size, ByteArray.size_append, List.length_cons, List.length_nil] ; omega)) only [xrun, ↓xpre, ↓reduceIte, xval, xops, xlib, boolV, nilV, nilN, oneC, splice, ne_eq, Nat.reduceEqDiff, Nat.reduceAdd, Nat.reduceMul, Nat.reduceLeDiff, Int.reduceToNat]
  intro n hn hm
  have hx := Ext.set (m := m) (n := n) (.cells [.int .i64 r.t, .int .i64 r.k, .int .i64 r.v, .string r.s] 4 t_impl_Row) hm
  simp -dsimp (disch := first | omega | (simp only [bys_size, ByteArray.size_append, List.length_cons, List.length_nil] ; omega)) only [xrun, ↓xpre, ↓reduceIte, xval, xops, xlib, boolV, nilV, nilN, oneC, splice, ne_eq, Nat.reduceEqDiff, Nat.reduceAdd, Nat.reduceMul, Nat.reduceLeDiff, Int.reduceToNat]
  refine callH_of (c_digits ht (by omega) (by omega)) ?_
  rintro v m' ⟨rfl, rfl⟩
  simp -dsimp (disch := first | omega | (simp only [bys_size, ByteArray.size_append, List.length_cons, List.length_nil] ; omega)) only [xrun, ↓xpre, ↓reduceIte, xval, xops, xlib, boolV, nilV, nilN, oneC, splice, ne_eq, Nat.reduceEqDiff, Nat.reduceAdd, Nat.reduceMul, Nat.reduceLeDiff, Int.reduceToNat]
  refine callH_of (c_digits ht (by omega) (by omega)) ?_
  rintro v m' ⟨rfl, rfl⟩
  simp -dsimp (disch := first | omega | (simp only [bys_size, ByteArray.size_append, List.length_cons, List.length_nil] ; omega)) only [xrun, ↓xpre, ↓reduceIte, xval, xops, xlib, boolV, nilV, nilN, oneC, splice, ne_eq, Nat.reduceEqDiff, Nat.reduceAdd, Nat.reduceMul, Nat.reduceLeDiff, Int.reduceToNat]
  refine callH_of (c_digits ht (by omega) (by omega)) ?_
  rintro v m' ⟨rfl, rfl⟩
  simp -dsimp (disch := first | omega | (simp only [bys_size, ByteArray.size_append, List.length_cons, List.length_nil] ; omega)) only [xrun, ↓xpre, ↓reduceIte, xval, xops, xlib, boolV, nilV, nilN, oneC, splice, ne_eq, Nat.reduceEqDiff, Nat.reduceAdd, Nat.reduceMul, Nat.reduceLeDiff, Int.reduceToNat]
  refine condH_of (fun h => ?_) (fun h => ?_)
  · simp -dsimp (disch := first | omega | (simp only [bys_size, ByteArray.size_append, List.length_cons, List.length_nil] ; omega)) only [xrun, ↓xpre, ↓reduceIte, xval, xops, xlib, boolV, nilV, nilN, oneC, splice, ne_eq, Nat.reduceEqDiff, Nat.reduceAdd, Nat.reduceMul, Nat.reduceLeDiff, Int.reduceToNat]
    exact wkH_ext hx ⟨by unfold rowTx; rw [if_neg h, ByteArray.append_assoc (c := r.s)], rfl⟩
  · simp -dsimp (disch := first | omega | (simp only [bys_size, ByteArray.size_append, List.length_cons, List.length_nil] ; omega)) only [xrun, ↓xpre, ↓reduceIte, xval, xops, xlib, boolV, nilV, nilN, oneC, splice, ne_eq, Nat.reduceEqDiff, Nat.reduceAdd, Nat.reduceMul, Nat.reduceLeDiff, Int.reduceToNat]
    exact wkH_ext hx ⟨by unfold rowTx; rw [if_pos (Classical.not_not.1 h)], rfl⟩

/-- The texts of rows, one a line. -/
def rowsTx (l : List RowM) : ByteArray := l.foldl (fun out r => out ++ bys [114, 111, 119, 32] ++ rowTx r ++ bys [10]) (bys [])

theorem rowsTx_succ {l : List RowM} {i : Nat} (h : i < l.length) : rowsTx (l.take (i + 1)) = rowsTx (l.take i) ++ bys [114, 111, 119, 32] ++ rowTx l[i] ++ bys [10] := by
  unfold rowsTx; rw [List.take_succ_eq_append_getElem h, List.foldl_append]; rfl

def rowsSaid (l : List RowM) : ByteArray := if rowsTx l = bys [] then bys [110, 111, 110, 101, 10] else rowsTx l

theorem c_l16Rows {w0 : World} {m : Frag} {a : Value} {l : List RowM} (ha : slT w0 m 4 a (l.map rowC)) (hok : ∀ r ∈ l, rowF r = 0) (hlen : l.length ≤ 60) : ACall Tryd.prog w0 n_spec_l16Rows #[a] m fun v m' => v = .string (rowsSaid l) ∧ m' = m := by
  refine acall_x mo x_spec_l16Rows (by rw [p_spec_l16Rows]; exact Nat.le_of_ble_eq_true rfl) ?_
  have hle := slT_le ha
  simp only [List.length_map] at hle
  obtain ⟨ba, ca, rfl⟩ := slT_sl ha
  unfold r_spec_l16Rows
  simp -dsimp (disch := first | omega | (simp only [bys_size, ByteArray.size_append, List.length_cons, List.length_nil] ; omega)) only [xrun, ↓xpre, ↓reduceIte, xval, xops, xlib, boolV, nilV, nilN, oneC, splice, ne_eq, Nat.reduceEqDiff, Nat.reduceAdd, Nat.reduceMul, Nat.reduceLeDiff, Int.reduceToNat]
  refine loopH_of (fun k t m' => m' = m ∧ ∃ i : Nat, i ≤ l.length ∧ k = l.length - i ∧ t 0 = .slice ba l.length ca ∧ t 3 = .string (rowsTx (l.take i)) ∧ t 4 = .int .i64 i ∧ (rowsTx (l.take i)).size ≤ i * 100) l.length ⟨rfl, 0, by omega, rfl, rfl, rfl, rfl, Nat.le_refl _⟩ ?_
  rintro k t _ ⟨rfl, i, hi, rfl, h0, h3, h4, hsz⟩
  simp -dsimp (disch := first | omega | (simp only [bys_size, ByteArray.size_append, List.length_cons, List.length_nil] ; omega)) only [xrun, ↓xpre, ↓reduceIte, xval, xops, xlib, boolV, nilV, nilN, oneC, splice, ne_eq, Nat.reduceEqDiff, Nat.reduceAdd, Nat.reduceMul, Nat.reduceLeDiff, Int.reduceToNat, h0, h3, h4]
  refine condH_of (fun hlt => ?_) (fun hge => ?_)
  · have hlt' : i < l.length := by omega
    have hi' : i < (l.map rowC).length := by rw [List.length_map]; exact hlt'
    obtain ⟨blk, o, rfl, hpt⟩ := slT_ptr ha hi'
    rw [List.getElem_map] at hpt
    have hri := hok _ (List.getElem_mem hlt')
    have hrs := rowTx_size hri
    simp -dsimp (disch := first | omega | (simp only [bys_size, ByteArray.size_append, List.length_cons, List.length_nil] ; omega)) only [xrun, ↓xpre, ↓reduceIte, xval, xops, xlib, boolV, nilV, nilN, oneC, splice, ne_eq, Nat.reduceEqDiff, Nat.reduceAdd, Nat.reduceMul, Nat.reduceLeDiff, Int.reduceToNat, h0, h3, h4]
    refine callH_of (c_l1RowText hpt hri) ?_
    rintro v m' ⟨rfl, rfl⟩
    simp -dsimp (disch := first | omega | (simp only [bys_size, ByteArray.size_append, List.length_cons, List.length_nil] ; omega)) only [xrun, ↓xpre, ↓reduceIte, xval, xops, xlib, boolV, nilV, nilN, oneC, splice, ne_eq, Nat.reduceEqDiff, Nat.reduceAdd, Nat.reduceMul, Nat.reduceLeDiff, Int.reduceToNat, h0, h3, h4]
    refine nextI_of (l.length - (i + 1)) (by omega) ⟨rfl, i + 1, by omega, rfl, h0, ?_, rfl, ?_⟩
    · rw [rowsTx_succ hlt']; rfl
    · rw [rowsTx_succ hlt']
      simp only [ByteArray.size_append, bys_size, List.length_cons, List.length_nil]; omega
  · have : i = l.length := by omega
    subst this
    rw [List.take_length] at h3
    simp -dsimp (disch := first | omega | (simp only [bys_size, ByteArray.size_append, List.length_cons, List.length_nil] ; omega)) only [xrun, ↓xpre, ↓reduceIte, xval, xops, xlib, boolV, nilV, nilN, oneC, splice, ne_eq, Nat.reduceEqDiff, Nat.reduceAdd, Nat.reduceMul, Nat.reduceLeDiff, Int.reduceToNat, h0, h3, h4]
    refine condH_of (fun h => ?_) (fun h => ?_)
    · simp -dsimp (disch := first | omega | (simp only [bys_size, ByteArray.size_append, List.length_cons, List.length_nil] ; omega)) only [xrun, ↓xpre, ↓reduceIte, xval, xops, xlib, boolV, nilV, nilN, oneC, splice, ne_eq, Nat.reduceEqDiff, Nat.reduceAdd, Nat.reduceMul, Nat.reduceLeDiff, Int.reduceToNat]
      exact wkH_self ⟨by unfold rowsSaid; rw [if_pos h], rfl⟩
    · simp -dsimp (disch := first | omega | (simp only [bys_size, ByteArray.size_append, List.length_cons, List.length_nil] ; omega)) only [xrun, ↓xpre, ↓reduceIte, xval, xops, xlib, boolV, nilV, nilN, oneC, splice, ne_eq, Nat.reduceEqDiff, Nat.reduceAdd, Nat.reduceMul, Nat.reduceLeDiff, Int.reduceToNat, h3]
      exact wkH_self ⟨by unfold rowsSaid; rw [if_neg h], rfl⟩

theorem rowsFt_len {l : List RowM} (h : rowsFt l = 0) : l.length ≤ 60 := by
  unfold rowsFt at h
  split at h
  · cases h
  · omega

theorem rowsFt_ok {l : List RowM} (h : rowsFt l = 0) : ∀ r ∈ l, rowF r = 0 := by
  have go : ∀ (l : List RowM) (p : Option RowM), rowsL p l = 0 → ∀ r ∈ l, rowF r = 0 := by
    intro l
    induction l with
    | nil => intro p _ r hr; cases hr
    | cons x l ih =>
      intro p h r hr
      unfold rowsL at h
      split at h
      · rename_i hne; exact absurd h hne
      · rename_i hz
        split at h
        · cases h
        · rcases List.mem_cons.1 hr with rfl | hr
          · exact Classical.not_not.1 hz
          · exact ih _ h r hr
  unfold rowsFt at h
  split at h
  · cases h
  · exact go l _ h

def rowsTextV (l : List RowM) : Value := if rowsFt l = 0 then .agg #[.int .i64 0, .string (rowsSaid l)] else .agg #[.int .i64 (rowsFt l), .string (bys [])]

theorem c_specRowsText {w0 : World} {m : Frag} {a : Value} {l : List RowM} (ha : slT w0 m 4 a (l.map rowC)) (hs : ∀ r ∈ l, r.s.size ≤ 2 ^ 62) : ACall Tryd.prog w0 n_spec_RowsText #[a] m fun v m' => v = rowsTextV l ∧ m' = m := by
  refine acall_x mo x_spec_RowsText (by rw [p_spec_RowsText]; exact Nat.le_of_ble_eq_true rfl) ?_
  unfold r_spec_RowsText
  simp -dsimp (disch := first | omega | (simp only [bys_size, ByteArray.size_append, List.length_cons, List.length_nil] ; omega)) only [xrun, ↓xpre, ↓reduceIte, xval, xops, xlib, boolV, nilV, nilN, oneC, splice, ne_eq, Nat.reduceEqDiff, Nat.reduceAdd, Nat.reduceMul, Nat.reduceLeDiff, Int.reduceToNat]
  intro n hn hm
  simp -dsimp (disch := first | omega | (simp only [bys_size, ByteArray.size_append, List.length_cons, List.length_nil] ; omega)) only [xrun, ↓xpre, ↓reduceIte, xval, xops, xlib, boolV, nilV, nilN, oneC, splice, ne_eq, Nat.reduceEqDiff, Nat.reduceAdd, Nat.reduceMul, Nat.reduceLeDiff, Int.reduceToNat]
  refine callH_of (c_l6Rows (slT_ext (Ext.set _ hm) ha) hs) ?_
  rintro v m' ⟨rfl, rfl⟩
  simp -dsimp (disch := first | omega | (simp only [bys_size, ByteArray.size_append, List.length_cons, List.length_nil] ; omega)) only [xrun, ↓xpre, ↓reduceIte, xval, xops, xlib, boolV, nilV, nilN, oneC, splice, ne_eq, Nat.reduceEqDiff, Nat.reduceAdd, Nat.reduceMul, Nat.reduceLeDiff, Int.reduceToNat]
  refine condH_of (fun h => ?_) (fun h => ?_)
  · simp -dsimp (disch := first | omega | (simp only [bys_size, ByteArray.size_append, List.length_cons, List.length_nil] ; omega)) only [xrun, ↓xpre, ↓reduceIte, xval, xops, xlib, boolV, nilV, nilN, oneC, splice, ne_eq, Nat.reduceEqDiff, Nat.reduceAdd, Nat.reduceMul, Nat.reduceLeDiff, Int.reduceToNat]
    exact wkH_ext (Ext.set _ hm) ⟨by unfold rowsTextV; rw [if_neg h], rfl⟩
  · have h0 : rowsFt l = 0 := by omega
    simp -dsimp (disch := first | omega | (simp only [bys_size, ByteArray.size_append, List.length_cons, List.length_nil] ; omega)) only [xrun, ↓xpre, ↓reduceIte, xval, xops, xlib, boolV, nilV, nilN, oneC, splice, ne_eq, Nat.reduceEqDiff, Nat.reduceAdd, Nat.reduceMul, Nat.reduceLeDiff, Int.reduceToNat]
    refine callH_of (c_l16Rows (slT_ext (Ext.set _ hm) ha) (rowsFt_ok h0) (rowsFt_len h0)) ?_
    rintro v m' ⟨rfl, rfl⟩
    simp -dsimp (disch := first | omega | (simp only [bys_size, ByteArray.size_append, List.length_cons, List.length_nil] ; omega)) only [xrun, ↓xpre, ↓reduceIte, xval, xops, xlib, boolV, nilV, nilN, oneC, splice, ne_eq, Nat.reduceEqDiff, Nat.reduceAdd, Nat.reduceMul, Nat.reduceLeDiff, Int.reduceToNat]
    exact wkH_ext (Ext.set _ hm) ⟨by unfold rowsTextV; rw [if_pos h0], rfl⟩

theorem c_implRowsText {w0 : World} {m : Frag} {a : Value} {l : List RowM} (ht : TabOk w0) (ha : slT w0 m 4 a (l.map rowC)) (hs : ∀ r ∈ l, r.s.size ≤ 2 ^ 62) : ACall Tryd.prog w0 n_impl_RowsText #[a] m fun v m' => v = rowsTextV l ∧ m' = m := by
  refine acall_x mo x_impl_RowsText (by rw [p_impl_RowsText]; exact Nat.le_of_ble_eq_true rfl) ?_
  have hle := slT_le ha
  simp only [List.length_map] at hle
  obtain ⟨ba, ca, rfl⟩ := slT_sl ha
  simp only [List.length_map] at ha
  unfold r_impl_RowsText
  simp -dsimp (disch := first | omega | (simp only [bys_size, ByteArray.size_append, List.length_cons, List.length_nil] ; omega)) only [xrun, ↓xpre, ↓reduceIte, xval, xops, xlib, boolV, nilV, nilN, oneC, splice, ne_eq, Nat.reduceEqDiff, Nat.reduceAdd, Nat.reduceMul, Nat.reduceLeDiff, Int.reduceToNat]
  intro n hn hm
  simp -dsimp (disch := first | omega | (simp only [bys_size, ByteArray.size_append, List.length_cons, List.length_nil] ; omega)) only [xrun, ↓xpre, ↓reduceIte, xval, xops, xlib, boolV, nilV, nilN, oneC, splice, ne_eq, Nat.reduceEqDiff, Nat.reduceAdd, Nat.reduceMul, Nat.reduceLeDiff, Int.reduceToNat]
  refine callH_of (c_RowsFault (slT_ext (Ext.set _ hm) ha) hs) ?_
  rintro v m' ⟨rfl, rfl⟩
  simp -dsimp (disch := first | omega | (simp only [bys_size, ByteArray.size_append, List.length_cons, List.length_nil] ; omega)) only [xrun, ↓xpre, ↓reduceIte, xval, xops, xlib, boolV, nilV, nilN, oneC, splice, ne_eq, Nat.reduceEqDiff, Nat.reduceAdd, Nat.reduceMul, Nat.reduceLeDiff, Int.reduceToNat]
  refine condH_of (fun h => ?_) (fun h => ?_)
  · simp -dsimp (disch := first | omega | (simp only [bys_size, ByteArray.size_append, List.length_cons, List.length_nil] ; omega)) only [xrun, ↓xpre, ↓reduceIte, xval, xops, xlib, boolV, nilV, nilN, oneC, splice, ne_eq, Nat.reduceEqDiff, Nat.reduceAdd, Nat.reduceMul, Nat.reduceLeDiff, Int.reduceToNat]
    exact wkH_ext (Ext.set _ hm) ⟨by unfold rowsTextV; rw [if_neg h], rfl⟩
  · have h0 : rowsFt l = 0 := by omega
    have hok := rowsFt_ok h0
    have hlen := rowsFt_len h0
    simp -dsimp (disch := first | omega | (simp only [bys_size, ByteArray.size_append, List.length_cons, List.length_nil] ; omega)) only [xrun, ↓xpre, ↓reduceIte, xval, xops, xlib, boolV, nilV, nilN, oneC, splice, ne_eq, Nat.reduceEqDiff, Nat.reduceAdd, Nat.reduceMul, Nat.reduceLeDiff, Int.reduceToNat]
    refine loopH_of (fun k t m' => Ext (m.set n (.cells [.int .i64 0, .string (bys [])] 2 t_impl_TextResult)) m' ∧ ∃ i : Nat, i ≤ l.length ∧ k = l.length - i ∧ t 2 = .pointer (some ⟨n, 0, Option.none⟩) ∧ t 13 = .slice ba l.length ca ∧ t 14 = .int .i64 l.length ∧ t 15 = .int .i64 i ∧ t 4 = .string (rowsTx (l.take i)) ∧ (rowsTx (l.take i)).size ≤ i * 100) l.length ⟨Ext.refl _, 0, by omega, rfl, rfl, rfl, rfl, rfl, rfl, Nat.le_refl _⟩ ?_
    rintro k t m1 ⟨hx, i, hi, rfl, h2, h13, h14, h15, h4, hsz⟩
    have hx0 := (Ext.set _ hm).trans hx
    simp -dsimp (disch := first | omega | (simp only [bys_size, ByteArray.size_append, List.length_cons, List.length_nil] ; omega)) only [xrun, ↓xpre, ↓reduceIte, xval, xops, xlib, boolV, nilV, nilN, oneC, splice, ne_eq, Nat.reduceEqDiff, Nat.reduceAdd, Nat.reduceMul, Nat.reduceLeDiff, Int.reduceToNat, h2, h13, h14, h15, h4]
    refine condH_of (fun hlt => ?_) (fun hge => ?_)
    · have hlt' : i < l.length := by omega
      obtain ⟨blk, o, rfl⟩ := slT_some ha (i := i) (by rw [List.length_map]; exact hlt')
      obtain ⟨cs, hr, hl1, e1⟩ := slT_row (slT_ext hx0 ha) hlt'
      have hb4 : i * 4 + 4 ≤ l.length * 4 := by omega
      have hri := hok _ (List.getElem_mem hlt')
      have hrs := rowTx_size hri
      have g1 : (rowC l[i]).length = 4 := rfl
      have g2 : (rowC l[i]).all oneC = true := rfl
      simp -dsimp (disch := first | omega | (simp only [bys_size, ByteArray.size_append, List.length_cons, List.length_nil] ; omega)) only [xrun, ↓xpre, ↓reduceIte, xval, xops, xlib, boolV, nilV, nilN, oneC, splice, ne_eq, Nat.reduceEqDiff, Nat.reduceAdd, Nat.reduceMul, Nat.reduceLeDiff, Int.reduceToNat, h2, h13, h14, h15, h4, hr, e1]
      intro q hq hqm
      have gd4 : (rowC l[i]).drop 4 = [] := rfl
      simp -dsimp (disch := first | omega | (simp only [bys_size, ByteArray.size_append, List.length_cons, List.length_nil] ; omega)) only [xrun, ↓xpre, ↓reduceIte, xval, xops, xlib, boolV, nilV, nilN, oneC, splice, ne_eq, Nat.reduceEqDiff, Nat.reduceAdd, Nat.reduceMul, Nat.reduceLeDiff, Int.reduceToNat, h2, h13, h14, h15, h4, g1, g2]
      refine callH_of (c_rowText (r := l[i]) ht hri) ?_
      rintro v m' ⟨rfl, rfl⟩
      simp -dsimp (disch := first | omega | (simp only [bys_size, ByteArray.size_append, List.length_cons, List.length_nil] ; omega)) only [xrun, ↓xpre, ↓reduceIte, xval, xops, xlib, boolV, nilV, nilN, oneC, splice, ne_eq, Nat.reduceEqDiff, Nat.reduceAdd, Nat.reduceMul, Nat.reduceLeDiff, Int.reduceToNat, h2, h13, h14, h15, h4]
      refine nextI_of (l.length - (i + 1)) (by omega) ⟨hx.trans (Ext.set _ hqm), i + 1, by omega, rfl, h2, h13, h14, rfl, ?_, ?_⟩
      · rw [rowsTx_succ hlt']
        simp only [ByteArray.append_assoc]; rfl
      · rw [rowsTx_succ hlt']
        simp only [ByteArray.size_append, bys_size, List.length_cons, List.length_nil]; omega
    · have : i = l.length := by omega
      subst this
      rw [List.take_length] at h4
      have hc := cellsOf_of (hx n _ (Frag.set_same _ _ _))
      have fin : ∀ (X : Blk), Ext m (m1.set n X) := fun X q b hq => by
        have hne : q ≠ n := fun e => by subst e; rw [hm] at hq; cases hq
        rw [Frag.set_ne _ _ hne]; exact hx0 _ _ hq
      simp -dsimp (disch := first | omega | (simp only [bys_size, ByteArray.size_append, List.length_cons, List.length_nil] ; omega)) only [xrun, ↓xpre, ↓reduceIte, xval, xops, xlib, boolV, nilV, nilN, oneC, splice, ne_eq, Nat.reduceEqDiff, Nat.reduceAdd, Nat.reduceMul, Nat.reduceLeDiff, Int.reduceToNat, h2, h13, h14, h15, h4]
      refine condH_of (fun h => ?_) (fun h => ?_)
      · simp -dsimp (disch := first | omega | (simp only [bys_size, ByteArray.size_append, List.length_cons, List.length_nil] ; omega)) only [xrun, ↓xpre, ↓reduceIte, xval, xops, xlib, boolV, nilV, nilN, oneC, splice, ne_eq, Nat.reduceEqDiff, Nat.reduceAdd, Nat.reduceMul, Nat.reduceLeDiff, Int.reduceToNat, h2, hc]
        exact wkH_ext (fin _) ⟨by unfold rowsTextV rowsSaid; rw [if_pos h0, if_pos h], rfl⟩
      · simp -dsimp (disch := first | omega | (simp only [bys_size, ByteArray.size_append, List.length_cons, List.length_nil] ; omega)) only [xrun, ↓xpre, ↓reduceIte, xval, xops, xlib, boolV, nilV, nilN, oneC, splice, ne_eq, Nat.reduceEqDiff, Nat.reduceAdd, Nat.reduceMul, Nat.reduceLeDiff, Int.reduceToNat, h2, h4, hc]
        exact wkH_ext (fin _) ⟨by unfold rowsTextV rowsSaid; rw [if_pos h0, if_neg h], rfl⟩

end Go.Proofs.YtemaflbbcihilaaDoor.Fl
