/- Lists of rows, told by contract: faults, sizes, copies, likeness. No conditions. -/
import Derived.Test.YtemaflbbcihilaaDoorV1
namespace Go.Proofs.YtemaflbbcihilaaDoor.Fl
open Go Go.RowKit
set_option linter.unusedSimpArgs false
set_option linter.unusedVariables false

/-- What is wrong with rows, from one on; prev: the one ahead. -/
def rowsL (prev : Option RowM) : List RowM → Int
  | [] => 0
  | r :: l => if rowF r ≠ 0 then rowF r else if (prev.any fun p => !rowB p r) then 1 else rowsL (some r) l

def rowsFt (l : List RowM) : Int := if l.length > 60 then 2 else rowsL Option.none l

def prevOf (l : List RowM) (i : Nat) : Option RowM := if i = 0 then Option.none else l[i - 1]?

theorem prevOf_succ {l : List RowM} {i : Nat} (h : i < l.length) : prevOf l (i + 1) = some l[i] := by
  unfold prevOf; rw [if_neg (by omega), Nat.add_sub_cancel, List.getElem?_eq_getElem h]

theorem c_l6Rows {w0 : World} {m : Frag} {a : Value} {l : List RowM} (ha : slT w0 m 4 a (l.map rowC)) (hs : ∀ r ∈ l, r.s.size ≤ 2 ^ 62) : ACall Tryd.prog w0 n_spec_l6Rows #[a] m fun v m' => v = .int .i64 (rowsFt l) ∧ m' = m := by
  refine acall_x mo x_spec_l6Rows (by rw [p_spec_l6Rows]; exact Nat.le_of_ble_eq_true rfl) ?_
  have hle := slT_le ha
  simp only [List.length_map] at hle
  obtain ⟨ba, ca, rfl⟩ := slT_sl ha
  unfold r_spec_l6Rows
  simp -dsimp (disch := first | omega | (simp only [bys_size, ByteArray.size_append, List.length_cons, List.length_nil] ; omega)) only [xrun, ↓xpre, ↓reduceIte, xval, xops, xlib, boolV, nilV, nilN, oneC, splice, ne_eq, Nat.reduceEqDiff, Nat.reduceAdd, Nat.reduceMul, Nat.reduceLeDiff, Int.reduceToNat]
  refine condH_of (fun h => ?_) (fun h => ?_)
  · simp -dsimp (disch := first | omega | (simp only [bys_size, ByteArray.size_append, List.length_cons, List.length_nil] ; omega)) only [xrun, ↓xpre, ↓reduceIte, xval, xops, xlib, boolV, nilV, nilN, oneC, splice, ne_eq, Nat.reduceEqDiff, Nat.reduceAdd, Nat.reduceMul, Nat.reduceLeDiff, Int.reduceToNat]
    exact wkH_self ⟨by unfold rowsFt; rw [if_pos (by omega)], rfl⟩
  · simp -dsimp (disch := first | omega | (simp only [bys_size, ByteArray.size_append, List.length_cons, List.length_nil] ; omega)) only [xrun, ↓xpre, ↓reduceIte, xval, xops, xlib, boolV, nilV, nilN, oneC, splice, ne_eq, Nat.reduceEqDiff, Nat.reduceAdd, Nat.reduceMul, Nat.reduceLeDiff, Int.reduceToNat]
    have hft : rowsFt l = rowsL Option.none l := by unfold rowsFt; rw [if_neg (by omega)]
    refine loopH_of (fun k t m' => m' = m ∧ ∃ i : Nat, i ≤ l.length ∧ k = l.length - i ∧ t 0 = .slice ba l.length ca ∧ t 3 = .int .i64 i ∧ rowsL (prevOf l i) (l.drop i) = rowsFt l) l.length ⟨rfl, 0, by omega, rfl, rfl, rfl, by rw [hft]; rfl⟩ ?_
    rintro k t _ ⟨rfl, i, hi, rfl, h0, h3, hp⟩
    simp -dsimp (disch := first | omega | (simp only [bys_size, ByteArray.size_append, List.length_cons, List.length_nil] ; omega)) only [xrun, ↓xpre, ↓reduceIte, xval, xops, xlib, boolV, nilV, nilN, oneC, splice, ne_eq, Nat.reduceEqDiff, Nat.reduceAdd, Nat.reduceMul, Nat.reduceLeDiff, Int.reduceToNat, h0, h3]
    refine condH_of (fun hlt => ?_) (fun hge => ?_)
    · have hlt' : i < l.length := by omega
      have hi' : i < (l.map rowC).length := by rw [List.length_map]; exact hlt'
      obtain ⟨blk, o, rfl, hpt⟩ := slT_ptr ha hi'
      rw [List.getElem_map] at hpt
      rw [List.drop_eq_getElem_cons hlt'] at hp
      simp -dsimp (disch := first | omega | (simp only [bys_size, ByteArray.size_append, List.length_cons, List.length_nil] ; omega)) only [xrun, ↓xpre, ↓reduceIte, xval, xops, xlib, boolV, nilV, nilN, oneC, splice, ne_eq, Nat.reduceEqDiff, Nat.reduceAdd, Nat.reduceMul, Nat.reduceLeDiff, Int.reduceToNat, h0, h3]
      refine callH_of (c_l1Fault hpt (hs _ (List.getElem_mem hlt'))) ?_
      rintro v m' ⟨rfl, rfl⟩
      simp -dsimp (disch := first | omega | (simp only [bys_size, ByteArray.size_append, List.length_cons, List.length_nil] ; omega)) only [xrun, ↓xpre, ↓reduceIte, xval, xops, xlib, boolV, nilV, nilN, oneC, splice, ne_eq, Nat.reduceEqDiff, Nat.reduceAdd, Nat.reduceMul, Nat.reduceLeDiff, Int.reduceToNat, h0, h3]
      refine condH_of (fun hne => ?_) (fun heq => ?_)
      · simp -dsimp (disch := first | omega | (simp only [bys_size, ByteArray.size_append, List.length_cons, List.length_nil] ; omega)) only [xrun, ↓xpre, ↓reduceIte, xval, xops, xlib, boolV, nilV, nilN, oneC, splice, ne_eq, Nat.reduceEqDiff, Nat.reduceAdd, Nat.reduceMul, Nat.reduceLeDiff, Int.reduceToNat]
        refine wkH_self ⟨?_, rfl⟩
        rw [← hp, rowsL, if_pos hne]
      · have hz : rowF l[i] = 0 := by omega
        rw [rowsL, if_neg (by rw [hz]; simp)] at hp
        simp -dsimp (disch := first | omega | (simp only [bys_size, ByteArray.size_append, List.length_cons, List.length_nil] ; omega)) only [xrun, ↓xpre, ↓reduceIte, xval, xops, xlib, boolV, nilV, nilN, oneC, splice, ne_eq, Nat.reduceEqDiff, Nat.reduceAdd, Nat.reduceMul, Nat.reduceLeDiff, Int.reduceToNat, h0, h3]
        have next : ∀ t', t' 0 = .slice (some ⟨blk, o, Option.none⟩) l.length ca → t' 3 = .int .i64 ((i : Int) + 1) → (prevOf l i).any (fun p => !rowB p l[i]) = false → nextI (fun k t m'' => m'' = m' ∧ ∃ i : Nat, i ≤ l.length ∧ k = l.length - i ∧ t 0 = .slice (some ⟨blk, o, Option.none⟩) l.length ca ∧ t 3 = .int .i64 i ∧ rowsL (prevOf l i) (l.drop i) = rowsFt l) (l.length - i) t' m' := by
          intro t' g0 g3 hf
          rw [hf] at hp
          exact nextI_of (l.length - (i + 1)) (by omega) ⟨rfl, i + 1, by omega, rfl, g0, g3, by rw [prevOf_succ hlt']; exact hp⟩
        refine gdH_b (fun hg => ?_) (fun hg => ?_)
        · have hg0 : 0 < i := by simpa using hg
          have hi2 : i - 1 < (l.map rowC).length := by rw [List.length_map]; omega
          obtain ⟨blk', o', hb', hpt'⟩ := slT_ptr ha hi2
          cases hb'
          rw [List.getElem_map] at hpt'
          have hcast : (((i : Int) - 1).toNat) = i - 1 := by omega
          simp -dsimp (disch := first | omega | (simp only [bys_size, ByteArray.size_append, List.length_cons, List.length_nil] ; omega)) only [xrun, ↓xpre, ↓reduceIte, xval, xops, xlib, boolV, nilV, nilN, oneC, splice, ne_eq, Nat.reduceEqDiff, Nat.reduceAdd, Nat.reduceMul, Nat.reduceLeDiff, Int.reduceToNat, h0, h3, hg, hcast]
          refine callH_of (c_l1Before hpt' hpt) ?_
          rintro v m'' ⟨rfl, rfl⟩
          simp -dsimp (disch := first | omega | (simp only [bys_size, ByteArray.size_append, List.length_cons, List.length_nil] ; omega)) only [xrun, ↓xpre, ↓reduceIte, xval, xops, xlib, boolV, nilV, nilN, oneC, splice, ne_eq, Nat.reduceEqDiff, Nat.reduceAdd, Nat.reduceMul, Nat.reduceLeDiff, Int.reduceToNat, h0, h3, hg]
          have hpv : prevOf l i = some l[i - 1] := by
            unfold prevOf; rw [if_neg (by omega), List.getElem?_eq_getElem (by omega)]
          cases hb : rowB l[i - 1] l[i] with
          | false =>
            simp -dsimp (disch := first | omega | (simp only [bys_size, ByteArray.size_append, List.length_cons, List.length_nil] ; omega)) only [xrun, ↓xpre, ↓reduceIte, xval, xops, xlib, boolV, nilV, nilN, oneC, splice, ne_eq, Nat.reduceEqDiff, Nat.reduceAdd, Nat.reduceMul, Nat.reduceLeDiff, Int.reduceToNat]
            refine wkH_self ⟨?_, rfl⟩
            rw [← hp, hpv]; simp [hb]
          | true =>
            simp -dsimp (disch := first | omega | (simp only [bys_size, ByteArray.size_append, List.length_cons, List.length_nil] ; omega)) only [xrun, ↓xpre, ↓reduceIte, xval, xops, xlib, boolV, nilV, nilN, oneC, splice, ne_eq, Nat.reduceEqDiff, Nat.reduceAdd, Nat.reduceMul, Nat.reduceLeDiff, Int.reduceToNat, h0, h3]
            exact next _ h0 rfl (by rw [hpv]; simp [hb])
        · have hg0 : i = 0 := by simp at hg; omega
          simp -dsimp (disch := first | omega | (simp only [bys_size, ByteArray.size_append, List.length_cons, List.length_nil] ; omega)) only [xrun, ↓xpre, ↓reduceIte, xval, xops, xlib, boolV, nilV, nilN, oneC, splice, ne_eq, Nat.reduceEqDiff, Nat.reduceAdd, Nat.reduceMul, Nat.reduceLeDiff, Int.reduceToNat, h0, h3, hg]
          refine next _ h0 rfl ?_
          subst hg0; rfl
    · have : i = l.length := by omega
      subst this
      rw [List.drop_length] at hp
      simp -dsimp (disch := first | omega | (simp only [bys_size, ByteArray.size_append, List.length_cons, List.length_nil] ; omega)) only [xrun, ↓xpre, ↓reduceIte, xval, xops, xlib, boolV, nilV, nilN, oneC, splice, ne_eq, Nat.reduceEqDiff, Nat.reduceAdd, Nat.reduceMul, Nat.reduceLeDiff, Int.reduceToNat, h0, h3]
      exact wkH_self ⟨by rw [← hp]; rfl, rfl⟩

theorem c_RowsFault {w0 : World} {m : Frag} {a : Value} {l : List RowM} (ha : slT w0 m 4 a (l.map rowC)) (hs : ∀ r ∈ l, r.s.size ≤ 2 ^ 62) : ACall Tryd.prog w0 n_impl_RowsFault #[a] m fun v m' => v = .int .i64 (rowsFt l) ∧ m' = m := by
  refine acall_x mo x_impl_RowsFault (by rw [p_impl_RowsFault]; exact Nat.le_of_ble_eq_true rfl) ?_
  have hle := slT_le ha
  simp only [List.length_map] at hle
  obtain ⟨ba, ca, rfl⟩ := slT_sl ha
  unfold r_impl_RowsFault
  simp -dsimp (disch := first | omega | (simp only [bys_size, ByteArray.size_append, List.length_cons, List.length_nil] ; omega)) only [xrun, ↓xpre, ↓reduceIte, xval, xops, xlib, boolV, nilV, nilN, oneC, splice, ne_eq, Nat.reduceEqDiff, Nat.reduceAdd, Nat.reduceMul, Nat.reduceLeDiff, Int.reduceToNat]
  refine condH_of (fun h => ?_) (fun h => ?_)
  · simp -dsimp (disch := first | omega | (simp only [bys_size, ByteArray.size_append, List.length_cons, List.length_nil] ; omega)) only [xrun, ↓xpre, ↓reduceIte, xval, xops, xlib, boolV, nilV, nilN, oneC, splice, ne_eq, Nat.reduceEqDiff, Nat.reduceAdd, Nat.reduceMul, Nat.reduceLeDiff, Int.reduceToNat]
    exact wkH_self ⟨by unfold rowsFt; rw [if_pos (by omega)], rfl⟩
  · simp -dsimp (disch := first | omega | (simp only [bys_size, ByteArray.size_append, List.length_cons, List.length_nil] ; omega)) only [xrun, ↓xpre, ↓reduceIte, xval, xops, xlib, boolV, nilV, nilN, oneC, splice, ne_eq, Nat.reduceEqDiff, Nat.reduceAdd, Nat.reduceMul, Nat.reduceLeDiff, Int.reduceToNat]
    have hft : rowsFt l = rowsL Option.none l := by unfold rowsFt; rw [if_neg (by omega)]
    refine loopH_of (fun k t m' => Ext m m' ∧ ∃ i : Nat, i ≤ l.length ∧ k = l.length - i ∧ t 0 = .slice ba l.length ca ∧ t 9 = .slice ba l.length ca ∧ t 10 = .int .i64 l.length ∧ t 11 = .int .i64 i ∧ rowsL (prevOf l i) (l.drop i) = rowsFt l) l.length ⟨Ext.refl _, 0, by omega, rfl, rfl, rfl, rfl, rfl, by rw [hft]; rfl⟩ ?_
    rintro k t m1 ⟨hx, i, hi, rfl, h0, h9, h10, h11, hp⟩
    simp -dsimp (disch := first | omega | (simp only [bys_size, ByteArray.size_append, List.length_cons, List.length_nil] ; omega)) only [xrun, ↓xpre, ↓reduceIte, xval, xops, xlib, boolV, nilV, nilN, oneC, splice, ne_eq, Nat.reduceEqDiff, Nat.reduceAdd, Nat.reduceMul, Nat.reduceLeDiff, Int.reduceToNat, h0, h9, h10, h11]
    refine condH_of (fun hlt => ?_) (fun hge => ?_)
    · have hlt' : i < l.length := by omega
      have hi' : i < (l.map rowC).length := by rw [List.length_map]; exact hlt'
      obtain ⟨blk, o, cs, rfl, hr, hl1, hle4, hat⟩ := slT_at (slT_ext hx ha) hi'
      have e1 := hat 0 4 (by omega)
      simp only [List.getElem_map, List.drop_zero, Nat.add_zero, List.length_map] at e1 hl1
      rw [List.take_of_length_le (show (rowC l[i]).length ≤ 4 from Nat.le_refl 4)] at e1
      rw [List.drop_eq_getElem_cons hlt'] at hp
      have hb4 : i * 4 + 4 ≤ l.length * 4 := by omega
      simp -dsimp (disch := first | omega | (simp only [bys_size, ByteArray.size_append, List.length_cons, List.length_nil] ; omega)) only [xrun, ↓xpre, ↓reduceIte, xval, xops, xlib, boolV, nilV, nilN, oneC, splice, ne_eq, Nat.reduceEqDiff, Nat.reduceAdd, Nat.reduceMul, Nat.reduceLeDiff, Int.reduceToNat, h0, h9, h10, h11, hr, e1, rowC]
      intro q hq hqm
      have hx2 := hx.trans (Ext.set (n := q) (.cells (rowC l[i]) 4 t_impl_Row) hqm)
      simp -dsimp (disch := first | omega | (simp only [bys_size, ByteArray.size_append, List.length_cons, List.length_nil] ; omega)) only [xrun, ↓xpre, ↓reduceIte, xval, xops, xlib, boolV, nilV, nilN, oneC, splice, ne_eq, Nat.reduceEqDiff, Nat.reduceAdd, Nat.reduceMul, Nat.reduceLeDiff, Int.reduceToNat, h0, h9, h10, h11]
      refine callH_of (c_RowFault (r := l[i]) (hs _ (List.getElem_mem hlt'))) ?_
      rintro v m' ⟨rfl, rfl⟩
      simp -dsimp (disch := first | omega | (simp only [bys_size, ByteArray.size_append, List.length_cons, List.length_nil] ; omega)) only [xrun, ↓xpre, ↓reduceIte, xval, xops, xlib, boolV, nilV, nilN, oneC, splice, ne_eq, Nat.reduceEqDiff, Nat.reduceAdd, Nat.reduceMul, Nat.reduceLeDiff, Int.reduceToNat, h0, h9, h10, h11]
      refine condH_of (fun hne => ?_) (fun heq => ?_)
      · simp -dsimp (disch := first | omega | (simp only [bys_size, ByteArray.size_append, List.length_cons, List.length_nil] ; omega)) only [xrun, ↓xpre, ↓reduceIte, xval, xops, xlib, boolV, nilV, nilN, oneC, splice, ne_eq, Nat.reduceEqDiff, Nat.reduceAdd, Nat.reduceMul, Nat.reduceLeDiff, Int.reduceToNat]
        refine wkH_ext hx2 ⟨?_, rfl⟩
        rw [← hp, rowsL, if_pos hne]
      · have hz : rowF l[i] = 0 := by omega
        rw [rowsL, if_neg (by rw [hz]; simp)] at hp
        simp -dsimp (disch := first | omega | (simp only [bys_size, ByteArray.size_append, List.length_cons, List.length_nil] ; omega)) only [xrun, ↓xpre, ↓reduceIte, xval, xops, xlib, boolV, nilV, nilN, oneC, splice, ne_eq, Nat.reduceEqDiff, Nat.reduceAdd, Nat.reduceMul, Nat.reduceLeDiff, Int.reduceToNat, h0, h9, h10, h11]
        have next : ∀ t', t' 0 = .slice (some ⟨blk, o, Option.none⟩) l.length ca → t' 9 = .slice (some ⟨blk, o, Option.none⟩) l.length ca → t' 10 = .int .i64 l.length → t' 11 = .int .i64 ((i : Int) + 1) → (prevOf l i).any (fun p => !rowB p l[i]) = false → nextI (fun k t m'' => Ext m m'' ∧ ∃ i : Nat, i ≤ l.length ∧ k = l.length - i ∧ t 0 = .slice (some ⟨blk, o, Option.none⟩) l.length ca ∧ t 9 = .slice (some ⟨blk, o, Option.none⟩) l.length ca ∧ t 10 = .int .i64 l.length ∧ t 11 = .int .i64 i ∧ rowsL (prevOf l i) (l.drop i) = rowsFt l) (l.length - i) t' (m1.set q (.cells (rowC l[i]) 4 t_impl_Row)) := by
          intro t' g0 g9 g10 g11 hf
          rw [hf] at hp
          exact nextI_of (l.length - (i + 1)) (by omega) ⟨hx2, i + 1, by omega, rfl, g0, g9, g10, g11, by rw [prevOf_succ hlt']; exact hp⟩
        refine gdH_b (fun hg => ?_) (fun hg => ?_)
        · have hg0 : 0 < i := by simpa using hg
          have hi2 : i - 1 < (l.map rowC).length := by rw [List.length_map]; omega
          obtain ⟨blk', o', cs', hb', hr', hl1', -, hat'⟩ := slT_at (slT_ext hx2 ha) hi2
          cases hb'
          have e2 := hat' 0 4 (by omega)
          simp only [List.getElem_map, List.drop_zero, Nat.add_zero, List.length_map] at e2 hl1'
          rw [List.take_of_length_le (show (rowC l[i - 1]).length ≤ 4 from Nat.le_refl 4)] at e2
          have hcast : (((i : Int) - 1).toNat) = i - 1 := by omega
          have hb5 : (i - 1) * 4 + 4 ≤ l.length * 4 := by omega
          have hr2 : row w0 (m1.set q (.cells [.int .i64 l[i].t, .int .i64 l[i].k, .int .i64 l[i].v, .string l[i].s] 4 t_impl_Row)) blk = some cs' := hr'
          simp -dsimp (disch := first | omega | (simp only [bys_size, ByteArray.size_append, List.length_cons, List.length_nil] ; omega)) only [xrun, ↓xpre, ↓reduceIte, xval, xops, xlib, boolV, nilV, nilN, oneC, splice, ne_eq, Nat.reduceEqDiff, Nat.reduceAdd, Nat.reduceMul, Nat.reduceLeDiff, Int.reduceToNat, h0, h9, h10, h11, hg, hcast, hr2, e2]
          refine callH_of (c_IsBefore (a := l[i - 1]) (b := l[i])) ?_
          rintro v m'' ⟨rfl, rfl⟩
          simp -dsimp (disch := first | omega | (simp only [bys_size, ByteArray.size_append, List.length_cons, List.length_nil] ; omega)) only [xrun, ↓xpre, ↓reduceIte, xval, xops, xlib, boolV, nilV, nilN, oneC, splice, ne_eq, Nat.reduceEqDiff, Nat.reduceAdd, Nat.reduceMul, Nat.reduceLeDiff, Int.reduceToNat, h0, h9, h10, h11, hg]
          have hpv : prevOf l i = some l[i - 1] := by
            unfold prevOf; rw [if_neg (by omega), List.getElem?_eq_getElem (by omega)]
          cases hb : rowB l[i - 1] l[i] with
          | false =>
            simp -dsimp (disch := first | omega | (simp only [bys_size, ByteArray.size_append, List.length_cons, List.length_nil] ; omega)) only [xrun, ↓xpre, ↓reduceIte, xval, xops, xlib, boolV, nilV, nilN, oneC, splice, ne_eq, Nat.reduceEqDiff, Nat.reduceAdd, Nat.reduceMul, Nat.reduceLeDiff, Int.reduceToNat]
            refine wkH_ext hx2 ⟨?_, rfl⟩
            rw [← hp, hpv]; simp [hb]
          | true =>
            simp -dsimp (disch := first | omega | (simp only [bys_size, ByteArray.size_append, List.length_cons, List.length_nil] ; omega)) only [xrun, ↓xpre, ↓reduceIte, xval, xops, xlib, boolV, nilV, nilN, oneC, splice, ne_eq, Nat.reduceEqDiff, Nat.reduceAdd, Nat.reduceMul, Nat.reduceLeDiff, Int.reduceToNat, h0, h9, h10, h11]
            exact next _ h0 h9 h10 rfl (by rw [hpv]; simp [hb])
        · have hg0 : i = 0 := by simp at hg; omega
          simp -dsimp (disch := first | omega | (simp only [bys_size, ByteArray.size_append, List.length_cons, List.length_nil] ; omega)) only [xrun, ↓xpre, ↓reduceIte, xval, xops, xlib, boolV, nilV, nilN, oneC, splice, ne_eq, Nat.reduceEqDiff, Nat.reduceAdd, Nat.reduceMul, Nat.reduceLeDiff, Int.reduceToNat, h0, h9, h10, h11, hg]
          refine next _ h0 h9 h10 rfl ?_
          subst hg0; rfl
    · have : i = l.length := by omega
      subst this
      rw [List.drop_length] at hp
      simp -dsimp (disch := first | omega | (simp only [bys_size, ByteArray.size_append, List.length_cons, List.length_nil] ; omega)) only [xrun, ↓xpre, ↓reduceIte, xval, xops, xlib, boolV, nilV, nilN, oneC, splice, ne_eq, Nat.reduceEqDiff, Nat.reduceAdd, Nat.reduceMul, Nat.reduceLeDiff, Int.reduceToNat, h0, h9, h10, h11]
      exact wkH_ext hx ⟨by rw [← hp]; rfl, rfl⟩

end Go.Proofs.YtemaflbbcihilaaDoor.Fl
