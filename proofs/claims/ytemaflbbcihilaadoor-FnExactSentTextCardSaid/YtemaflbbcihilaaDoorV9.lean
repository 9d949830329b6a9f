/- What is sent: copies, likeness, texts; the law of SentText, told by contract. No conditions. -/
import Derived.Test.YtemaflbbcihilaaDoorV8
namespace Go.Proofs.YtemaflbbcihilaaDoor.Fl
open Go Go.RowKit
set_option linter.unusedSimpArgs false
set_option linter.unusedVariables false

theorem new_ne {m : Frag} {n k : Nat} {b : Blk} (hm : m n = some b) (hk : m k = Option.none) : k ≠ n := fun e => by subst e; rw [hm] at hk; cases hk

theorem set_none {m : Frag} {n k : Nat} {b : Blk} (h : (m.set n b) k = Option.none) : k ≠ n ∧ m k = Option.none := by
  have : k ≠ n := fun e => by subst e; rw [Frag.set_same] at h; cases h
  exact ⟨this, by rw [Frag.set_ne _ _ this] at h; exact h⟩

/-- Own blocks laid beside what is known. -/
theorem ext_set3 {m : Frag} {a b c : Nat} {X Y Z : Blk} (ha : m a = Option.none) (hb : m b = Option.none) (hc : m c = Option.none) : Ext m (((m.set a X).set b Y).set c Z) := by
  intro q bq hq
  have q1 : q ≠ a := fun e => by subst e; rw [hq] at ha; cases ha
  have q2 : q ≠ b := fun e => by subst e; rw [hq] at hb; cases hb
  have q3 : q ≠ c := fun e => by subst e; rw [hq] at hc; cases hc
  rw [Frag.set_ne _ _ q3, Frag.set_ne _ _ q2, Frag.set_ne _ _ q1]; exact hq

theorem c_toChange {w0 : World} {m : Frag} {c : ChM} : ACall Tryd.prog w0 n_laws_toChange #[.agg (chC c).toArray] m fun v m' => v = .agg (chC c).toArray ∧ m' = m := by
  refine acall_x mo x_laws_toChange (by rw [p_laws_toChange]; exact Nat.le_of_ble_eq_true rfl) ?_
  obtain ⟨w, b, s, a⟩ := c
  unfold r_laws_toChange chC
  simp -dsimp (disch := first | omega | (simp only [bys_size, ByteArray.size_append, List.length_cons, List.length_nil] ; omega)) only [xrun, ↓xpre, ↓reduceIte, xval, xops, xlib, boolV, nilV, nilN, oneC, splice, ne_eq, Nat.reduceEqDiff, Nat.reduceAdd, Nat.reduceMul, Nat.reduceLeDiff, Int.reduceToNat]
  intro n hn hm
  simp -dsimp (disch := first | omega | (simp only [bys_size, ByteArray.size_append, List.length_cons, List.length_nil] ; omega)) only [xrun, ↓xpre, ↓reduceIte, xval, xops, xlib, boolV, nilV, nilN, oneC, splice, ne_eq, Nat.reduceEqDiff, Nat.reduceAdd, Nat.reduceMul, Nat.reduceLeDiff, Int.reduceToNat]
  intro n2 hn2 hm2
  obtain ⟨hne, hm2'⟩ := set_none hm2
  have hne' : n ≠ n2 := Ne.symm hne
  simp -dsimp (disch := first | omega | (simp only [bys_size, ByteArray.size_append, List.length_cons, List.length_nil] ; omega)) only [xrun, ↓xpre, ↓reduceIte, xval, xops, xlib, boolV, nilV, nilN, oneC, splice, ne_eq, Nat.reduceEqDiff, Nat.reduceAdd, Nat.reduceMul, Nat.reduceLeDiff, Int.reduceToNat, hne, hne']
  intro n3 hn3 hm3
  obtain ⟨hne3, hm3'⟩ := set_none hm3
  obtain ⟨hne4, hm3''⟩ := set_none hm3'
  have hne3' : n2 ≠ n3 := Ne.symm hne3
  have hne4' : n ≠ n3 := Ne.symm hne4
  simp -dsimp (disch := first | omega | (simp only [bys_size, ByteArray.size_append, List.length_cons, List.length_nil] ; omega)) only [xrun, ↓xpre, ↓reduceIte, xval, xops, xlib, boolV, nilV, nilN, oneC, splice, ne_eq, Nat.reduceEqDiff, Nat.reduceAdd, Nat.reduceMul, Nat.reduceLeDiff, Int.reduceToNat, hne, hne', hne3, hne4, hne3', hne4', cellsOf_ne]
  refine callH_of (c_toRow (r := b)) ?_
  rintro v m' ⟨rfl, rfl⟩
  simp -dsimp (disch := first | omega | (simp only [bys_size, ByteArray.size_append, List.length_cons, List.length_nil] ; omega)) only [xrun, ↓xpre, ↓reduceIte, xval, xops, xlib, boolV, nilV, nilN, oneC, splice, ne_eq, Nat.reduceEqDiff, Nat.reduceAdd, Nat.reduceMul, Nat.reduceLeDiff, Int.reduceToNat, hne, hne', hne3, hne4, hne3', hne4', cellsOf_ne, rowC]
  refine callH_of (c_toRow (r := a)) ?_
  rintro v m' ⟨rfl, rfl⟩
  simp -dsimp (disch := first | omega | (simp only [bys_size, ByteArray.size_append, List.length_cons, List.length_nil] ; omega)) only [xrun, ↓xpre, ↓reduceIte, xval, xops, xlib, boolV, nilV, nilN, oneC, splice, ne_eq, Nat.reduceEqDiff, Nat.reduceAdd, Nat.reduceMul, Nat.reduceLeDiff, Int.reduceToNat, hne, hne', hne3, hne4, hne3', hne4', cellsOf_ne, rowC]
  refine wkH_ext (m' := m) ?_ ⟨rfl, rfl⟩
  intro q bq hq
  have q1 : q ≠ n := fun e => by subst e; rw [hq] at hm; cases hm
  have q2 : q ≠ n2 := fun e => by subst e; rw [hq] at hm2'; cases hm2'
  have q3 : q ≠ n3 := fun e => by subst e; rw [hq] at hm3''; cases hm3''
  simp only [Frag.set_ne _ _ q1, Frag.set_ne _ _ q2, Frag.set_ne _ _ q3, hq]

theorem chs_len {l : List ChM} : (l.map chC).flatten.length = l.length * 10 := by
  rw [flat_len (es := 10) (by intro c hc; obtain ⟨r, _, rfl⟩ := List.mem_map.1 hc; rfl), List.length_map]

def zC : List Value := [.bool false, .int .i64 0, .int .i64 0, .int .i64 0, .string (bys []), .bool false, .int .i64 0, .int .i64 0, .int .i64 0, .string (bys [])]

theorem c_toChangeS {w0 : World} {m : Frag} {a : Value} {l : List ChM} (ha : slT w0 m 10 a (l.map chC)) (hl : l.length ≤ 2 ^ 27) : ACall Tryd.prog w0 n_laws_toChangeS #[a] m fun v m' => OwnR w0 m m' 10 t_impl_Change v l.length (l.map chC).flatten := by
  refine acall_x mo x_laws_toChangeS (by rw [p_laws_toChangeS]; exact Nat.le_of_ble_eq_true rfl) ?_
  have hle := slT_le ha
  simp only [List.length_map] at hle
  obtain ⟨ba, ca, rfl⟩ := slT_sl ha
  simp only [List.length_map] at ha
  unfold r_laws_toChangeS
  simp -dsimp (disch := first | omega | (simp only [bys_size, ByteArray.size_append, List.length_cons, List.length_nil] ; omega)) only [xrun, ↓xpre, ↓reduceIte, xval, xops, xlib, boolV, nilV, nilN, oneC, splice, ne_eq, Nat.reduceEqDiff, Nat.reduceAdd, Nat.reduceMul, Nat.reduceLeDiff, Int.reduceToNat]
  intro b hB hb
  simp -dsimp (disch := first | omega | (simp only [bys_size, ByteArray.size_append, List.length_cons, List.length_nil] ; omega)) only [xrun, ↓xpre, ↓reduceIte, xval, xops, xlib, boolV, nilV, nilN, oneC, splice, ne_eq, Nat.reduceEqDiff, Nat.reduceAdd, Nat.reduceMul, Nat.reduceLeDiff, Int.reduceToNat]
  refine loopH_of (fun k t m' => ∃ (i : Nat), i ≤ l.length ∧ k = l.length - i ∧ t 0 = .slice ba l.length ca ∧ t 3 = .slice (some ⟨b, 0, Option.none⟩) l.length l.length ∧ t 4 = .int .i64 i ∧
    m' = m.set b (.cells (((l.take i).map chC).flatten ++ reps zC (l.length - i)) (l.length * 10) t_impl_Change)) l.length ⟨0, by omega, rfl, rfl, rfl, rfl, by simp; rfl⟩ ?_
  rintro k t _ ⟨i, hi, rfl, h0, h3, h4, rfl⟩
  simp -dsimp (disch := first | omega | (simp only [bys_size, ByteArray.size_append, List.length_cons, List.length_nil] ; omega)) only [xrun, ↓xpre, ↓reduceIte, xval, xops, xlib, boolV, nilV, nilN, oneC, splice, ne_eq, Nat.reduceEqDiff, Nat.reduceAdd, Nat.reduceMul, Nat.reduceLeDiff, Int.reduceToNat, h0, h3, h4]
  refine condH_of (fun hlt => ?_) (fun hge => ?_)
  · have hlt' : i < l.length := by omega
    obtain ⟨blk, o, rfl⟩ := slT_some ha (i := i) (by rw [List.length_map]; exact hlt')
    obtain ⟨cs, hr, hl1, e1⟩ := slT_ch ha hlt'
    have hnb := row_nb hr hB hb
    have hb4 : i * 10 + 10 ≤ l.length * 10 := by omega
    simp -dsimp (disch := first | omega | (simp only [bys_size, ByteArray.size_append, List.length_cons, List.length_nil] ; omega)) only [xrun, ↓xpre, ↓reduceIte, xval, xops, xlib, boolV, nilV, nilN, oneC, splice, ne_eq, Nat.reduceEqDiff, Nat.reduceAdd, Nat.reduceMul, Nat.reduceLeDiff, Int.reduceToNat, h0, h3, h4, hr, e1]
    refine callH_of (c_toChange (c := l[i])) ?_
    rintro v m' ⟨rfl, rfl⟩
    have l1 : (((l.take i).map chC).flatten).length = i * 10 := by rw [chs_len, List.length_take, Nat.min_eq_left hi]
    have l2 := @reps_len zC (l.length - i)
    simp only [zC, List.length_cons, List.length_nil] at l2
    have g1 : (chC l[i]).length = 10 := rfl
    have g2 : (chC l[i]).all oneC = true := rfl
    simp -dsimp (disch := first | omega | (simp only [bys_size, ByteArray.size_append, List.length_cons, List.length_nil] ; omega)) only [xrun, ↓xpre, ↓reduceIte, xval, xops, xlib, boolV, nilV, nilN, oneC, splice, ne_eq, Nat.reduceEqDiff, Nat.reduceAdd, Nat.reduceMul, Nat.reduceLeDiff, Int.reduceToNat, h0, h3, h4, List.length_append, l1, l2, g1, g2, zC]
    refine nextI_of (l.length - (i + 1)) (by omega) ⟨i + 1, by omega, rfl, h0, h3, rfl, ?_⟩
    congr 2
    have hsplit : reps zC (l.length - i) = zC ++ reps zC (l.length - (i + 1)) := by
      unfold reps
      rw [show l.length - i = (l.length - (i + 1)) + 1 by omega, List.replicate_succ, List.flatten_cons]
    have hz : zC.length = 10 := rfl
    rw [List.take_succ_eq_append_getElem hlt', List.map_append, List.flatten_append]
    show List.take _ (_ ++ reps zC _) ++ _ ++ List.drop _ (_ ++ reps zC _) = _
    rw [hsplit, List.take_append_of_le_length (by omega), List.take_of_length_le (by omega), List.drop_append, l1, List.drop_of_length_le (by omega), Nat.add_sub_cancel_left]
    rw [List.nil_append, List.drop_append_of_le_length (by rw [hz]; omega), List.drop_of_length_le (by rw [hz]; omega), List.nil_append]
    simp [List.append_assoc]; rfl
  · have : i = l.length := by omega
    subst this
    simp -dsimp (disch := first | omega | (simp only [bys_size, ByteArray.size_append, List.length_cons, List.length_nil] ; omega)) only [xrun, ↓xpre, ↓reduceIte, xval, xops, xlib, boolV, nilV, nilN, oneC, splice, ne_eq, Nat.reduceEqDiff, Nat.reduceAdd, Nat.reduceMul, Nat.reduceLeDiff, Int.reduceToNat, h0, h3, h4]
    refine wkH_self ?_
    simp only [Nat.sub_self, List.take_length]
    exact OwnR.new hB hb chs_len rfl (by rw [show reps zC 0 = [] from rfl, List.append_nil]; exact Ext.refl _)

theorem c_eqChange {w0 : World} {m : Frag} {c : ChM} : ACall Tryd.prog w0 n_laws_eqChange #[.agg (chC c).toArray, .agg (chC c).toArray] m fun v m' => v = .bool true ∧ m' = m := by
  refine acall_x mo x_laws_eqChange (by rw [p_laws_eqChange]; exact Nat.le_of_ble_eq_true rfl) ?_
  obtain ⟨w, b, s, a⟩ := c
  unfold r_laws_eqChange chC
  have hbb : ∀ x : Bool, (x != x) = false := fun x => by cases x <;> rfl
  simp -dsimp (disch := first | omega | (simp only [bys_size, ByteArray.size_append, List.length_cons, List.length_nil] ; omega)) only [xrun, ↓xpre, ↓reduceIte, xval, xops, xlib, boolV, nilV, nilN, oneC, splice, ne_eq, Nat.reduceEqDiff, Nat.reduceAdd, Nat.reduceMul, Nat.reduceLeDiff, Int.reduceToNat]
  intro n hn hm
  simp -dsimp (disch := first | omega | (simp only [bys_size, ByteArray.size_append, List.length_cons, List.length_nil] ; omega)) only [xrun, ↓xpre, ↓reduceIte, xval, xops, xlib, boolV, nilV, nilN, oneC, splice, ne_eq, Nat.reduceEqDiff, Nat.reduceAdd, Nat.reduceMul, Nat.reduceLeDiff, Int.reduceToNat]
  intro n2 hn2 hm2
  obtain ⟨hne, hm2'⟩ := set_none hm2
  have hne' : n ≠ n2 := Ne.symm hne
  simp -dsimp (disch := first | omega | (simp only [bys_size, ByteArray.size_append, List.length_cons, List.length_nil] ; omega)) only [xrun, ↓xpre, ↓reduceIte, xval, xops, xlib, boolV, nilV, nilN, oneC, splice, ne_eq, Nat.reduceEqDiff, Nat.reduceAdd, Nat.reduceMul, Nat.reduceLeDiff, Int.reduceToNat, hne, hne', hbb]
  refine callH_of (c_eqRow (a := b) (b := b) rfl) ?_
  rintro v m' ⟨rfl, rfl⟩
  simp -dsimp (disch := first | omega | (simp only [bys_size, ByteArray.size_append, List.length_cons, List.length_nil] ; omega)) only [xrun, ↓xpre, ↓reduceIte, xval, xops, xlib, boolV, nilV, nilN, oneC, splice, ne_eq, Nat.reduceEqDiff, Nat.reduceAdd, Nat.reduceMul, Nat.reduceLeDiff, Int.reduceToNat, hne, hne', hbb]
  refine callH_of (c_eqRow (a := a) (b := a) rfl) ?_
  rintro v m' ⟨rfl, rfl⟩
  simp -dsimp (disch := first | omega | (simp only [bys_size, ByteArray.size_append, List.length_cons, List.length_nil] ; omega)) only [xrun, ↓xpre, ↓reduceIte, xval, xops, xlib, boolV, nilV, nilN, oneC, splice, ne_eq, Nat.reduceEqDiff, Nat.reduceAdd, Nat.reduceMul, Nat.reduceLeDiff, Int.reduceToNat]
  exact wkH_ext ((Ext.set _ hm).trans (Ext.set _ hm2)) ⟨rfl, rfl⟩

theorem c_eqChangeS {w0 : World} {m : Frag} {a b : Value} {l : List ChM} (ha : slT w0 m 10 a (l.map chC)) (hb : slT w0 m 10 b (l.map chC)) :
    ACall Tryd.prog w0 n_laws_eqChangeS #[a, b] m fun v m' => v = .bool true ∧ m' = m := by
  refine acall_x mo x_laws_eqChangeS (by rw [p_laws_eqChangeS]; exact Nat.le_of_ble_eq_true rfl) ?_
  have hle := slT_le ha
  simp only [List.length_map] at hle
  obtain ⟨ba, ca, rfl⟩ := slT_sl ha
  obtain ⟨bb, cb, rfl⟩ := slT_sl hb
  simp only [List.length_map] at ha hb
  unfold r_laws_eqChangeS
  simp -dsimp (disch := first | omega | (simp only [bys_size, ByteArray.size_append, List.length_cons, List.length_nil] ; omega)) only [xrun, ↓xpre, ↓reduceIte, xval, xops, xlib, boolV, nilV, nilN, oneC, splice, ne_eq, Nat.reduceEqDiff, Nat.reduceAdd, Nat.reduceMul, Nat.reduceLeDiff, Int.reduceToNat]
  refine loopH_of (fun k t m' => m' = m ∧ ∃ i : Nat, i ≤ l.length ∧ k = l.length - i ∧ t 0 = .slice ba l.length ca ∧ t 1 = .slice bb l.length cb ∧ t 5 = .int .i64 i) l.length ⟨rfl, 0, by omega, rfl, rfl, rfl, rfl⟩ ?_
  rintro k t _ ⟨rfl, i, hi, rfl, h0, h1, h5⟩
  simp -dsimp (disch := first | omega | (simp only [bys_size, ByteArray.size_append, List.length_cons, List.length_nil] ; omega)) only [xrun, ↓xpre, ↓reduceIte, xval, xops, xlib, boolV, nilV, nilN, oneC, splice, ne_eq, Nat.reduceEqDiff, Nat.reduceAdd, Nat.reduceMul, Nat.reduceLeDiff, Int.reduceToNat, h0, h1, h5]
  refine condH_of (fun hlt => ?_) (fun hge => ?_)
  · have hlt' : i < l.length := by omega
    obtain ⟨blk, o, rfl⟩ := slT_some ha (i := i) (by rw [List.length_map]; exact hlt')
    obtain ⟨blk2, o2, rfl⟩ := slT_some hb (i := i) (by rw [List.length_map]; exact hlt')
    obtain ⟨cs, hr, hl1, e1⟩ := slT_ch ha hlt'
    obtain ⟨cs2, hr2, hl2, e2⟩ := slT_ch hb hlt'
    have hb4 : i * 10 + 10 ≤ l.length * 10 := by omega
    simp -dsimp (disch := first | omega | (simp only [bys_size, ByteArray.size_append, List.length_cons, List.length_nil] ; omega)) only [xrun, ↓xpre, ↓reduceIte, xval, xops, xlib, boolV, nilV, nilN, oneC, splice, ne_eq, Nat.reduceEqDiff, Nat.reduceAdd, Nat.reduceMul, Nat.reduceLeDiff, Int.reduceToNat, h0, h1, h5, hr, hr2, e1, e2]
    refine callH_of (c_eqChange (c := l[i])) ?_
    rintro v m' ⟨rfl, rfl⟩
    simp -dsimp (disch := first | omega | (simp only [bys_size, ByteArray.size_append, List.length_cons, List.length_nil] ; omega)) only [xrun, ↓xpre, ↓reduceIte, xval, xops, xlib, boolV, nilV, nilN, oneC, splice, ne_eq, Nat.reduceEqDiff, Nat.reduceAdd, Nat.reduceMul, Nat.reduceLeDiff, Int.reduceToNat, h0, h1, h5]
    exact nextI_of (l.length - (i + 1)) (by omega) ⟨rfl, i + 1, by omega, rfl, h0, h1, rfl⟩
  · have : i = l.length := by omega
    subst this
    simp -dsimp (disch := first | omega | (simp only [bys_size, ByteArray.size_append, List.length_cons, List.length_nil] ; omega)) only [xrun, ↓xpre, ↓reduceIte, xval, xops, xlib, boolV, nilV, nilN, oneC, splice, ne_eq, Nat.reduceEqDiff, Nat.reduceAdd, Nat.reduceMul, Nat.reduceLeDiff, Int.reduceToNat, h0, h1, h5]
    exact wkH_self ⟨rfl, rfl⟩

/-! ### What is sent -/

def sentFt (at_ tx : Int) (l : List ChM) : Int := if inB at_ 0 16000 && inB tx 1 99 then chsFt l else 3
def chTx (c : ChM) : ByteArray := if c.was then (if c.is then bys [115, 101, 116, 32] ++ rowTx c.b ++ bys [32, 116, 111, 32] ++ rowTx c.a ++ bys [10] else bys [100, 114, 111, 112, 32] ++ rowTx c.b ++ bys [10]) else bys [112, 117, 116, 32] ++ rowTx c.a ++ bys [10]
def chsTx (tx : Int) (l : List ChM) : ByteArray := l.foldl (fun out c => out ++ chTx c) (bys [99, 111, 109, 109, 105, 116, 32] ++ dg tx ++ bys [10])

theorem chsTx_succ {tx : Int} {l : List ChM} {i : Nat} (h : i < l.length) : chsTx tx (l.take (i + 1)) = chsTx tx (l.take i) ++ chTx l[i] := by
  unfold chsTx; rw [List.take_succ_eq_append_getElem h, List.foldl_append]; rfl

theorem oneF_ok {c : ChM} (h : oneF c = 0) : (c.was = true → rowF c.b = 0) ∧ (c.is = true → rowF c.a = 0) ∧ (c.was = false → c.is = true) := by
  unfold oneF at h
  split at h
  · rename_i h1; exact absurd h h1
  · rename_i h1
    have h1 : chF c = 0 := Classical.not_not.1 h1
    unfold chF at h1
    split at h1
    · cases h1
    · rename_i h2
      obtain ⟨w, b, s, a⟩ := c
      cases w <;> cases s <;> simp at h1 h2 ⊢
      · exact h1
      · exact Classical.byContradiction fun h => h (h1 h)
      · split at h1
        · rename_i h3; exact ⟨h3, h1⟩
        · rename_i h3; exact absurd h1 h3

theorem chTx_size {c : ChM} (h : oneF c = 0) : (chTx c).size ≤ 160 := by
  obtain ⟨h1, h2, h3⟩ := oneF_ok h
  unfold chTx
  split
  · rename_i hw
    have s1 := rowTx_size (h1 hw)
    split
    · rename_i hi
      have s2 := rowTx_size (h2 hi)
      simp only [ByteArray.size_append, bys_size, List.length_cons, List.length_nil]; omega
    · simp only [ByteArray.size_append, bys_size, List.length_cons, List.length_nil]; omega
  · rename_i hw
    have s2 := rowTx_size (h2 (h3 (by simpa using hw)))
    simp only [ByteArray.size_append, bys_size, List.length_cons, List.length_nil]; omega

theorem c_l14Sent {w0 : World} {m : Frag} {p a : Value} {at_ tx : Int} {l : List ChM} (hp : ptrT w0 m p [.int .i64 at_, .int .i64 tx, a]) (ha : slT w0 m 10 a (l.map chC)) (hs : ∀ r ∈ l, r.small) : ACall Tryd.prog w0 n_spec_l14Sent #[p] m fun v m' => v = .int .i64 (sentFt at_ tx l) ∧ m' = m := by
  refine acall_x mo x_spec_l14Sent (by rw [p_spec_l14Sent]; exact Nat.le_of_ble_eq_true rfl) ?_
  obtain ⟨n, o, cs, rest, rfl, hr, hl, h0, hat⟩ := ptrT_at hp
  have a1 := hat 1 (by show 1 ≤ 3; omega)
  have a2 := hat 2 (by show 2 ≤ 3; omega)
  simp only [List.drop_succ_cons, List.drop_zero, List.length_cons, List.length_nil] at hl h0 a1 a2
  unfold r_spec_l14Sent
  simp -dsimp (disch := first | omega | (simp only [bys_size, ByteArray.size_append, List.length_cons, List.length_nil] ; omega)) only [xrun, ↓xpre, ↓reduceIte, xval, xops, xlib, boolV, nilV, nilN, oneC, splice, ne_eq, Nat.reduceEqDiff, Nat.reduceAdd, Nat.reduceMul, Nat.reduceLeDiff, Int.reduceToNat, hr, h0]
  refine callH_of c_l1In ?_
  rintro v m' ⟨rfl, rfl⟩
  simp -dsimp (disch := first | omega | (simp only [bys_size, ByteArray.size_append, List.length_cons, List.length_nil] ; omega)) only [xrun, ↓xpre, ↓reduceIte, xval, xops, xlib, boolV, nilV, nilN, oneC, splice, ne_eq, Nat.reduceEqDiff, Nat.reduceAdd, Nat.reduceMul, Nat.reduceLeDiff, Int.reduceToNat]
  cases h1 : inB at_ 0 16000 with
  | false =>
    simp -dsimp (disch := first | omega | (simp only [bys_size, ByteArray.size_append, List.length_cons, List.length_nil] ; omega)) only [xrun, ↓xpre, ↓reduceIte, xval, xops, xlib, boolV, nilV, nilN, oneC, splice, ne_eq, Nat.reduceEqDiff, Nat.reduceAdd, Nat.reduceMul, Nat.reduceLeDiff, Int.reduceToNat]
    exact wkH_self ⟨by simp [sentFt, h1], rfl⟩
  | true =>
    simp -dsimp (disch := first | omega | (simp only [bys_size, ByteArray.size_append, List.length_cons, List.length_nil] ; omega)) only [xrun, ↓xpre, ↓reduceIte, xval, xops, xlib, boolV, nilV, nilN, oneC, splice, ne_eq, Nat.reduceEqDiff, Nat.reduceAdd, Nat.reduceMul, Nat.reduceLeDiff, Int.reduceToNat, hr, a1]
    refine callH_of c_l1In ?_
    rintro v m' ⟨rfl, rfl⟩
    simp -dsimp (disch := first | omega | (simp only [bys_size, ByteArray.size_append, List.length_cons, List.length_nil] ; omega)) only [xrun, ↓xpre, ↓reduceIte, xval, xops, xlib, boolV, nilV, nilN, oneC, splice, ne_eq, Nat.reduceEqDiff, Nat.reduceAdd, Nat.reduceMul, Nat.reduceLeDiff, Int.reduceToNat]
    cases h2 : inB tx 1 99 with
    | false =>
      simp -dsimp (disch := first | omega | (simp only [bys_size, ByteArray.size_append, List.length_cons, List.length_nil] ; omega)) only [xrun, ↓xpre, ↓reduceIte, xval, xops, xlib, boolV, nilV, nilN, oneC, splice, ne_eq, Nat.reduceEqDiff, Nat.reduceAdd, Nat.reduceMul, Nat.reduceLeDiff, Int.reduceToNat]
      exact wkH_self ⟨by simp [sentFt, h1, h2], rfl⟩
    | true =>
      simp -dsimp (disch := first | omega | (simp only [bys_size, ByteArray.size_append, List.length_cons, List.length_nil] ; omega)) only [xrun, ↓xpre, ↓reduceIte, xval, xops, xlib, boolV, nilV, nilN, oneC, splice, ne_eq, Nat.reduceEqDiff, Nat.reduceAdd, Nat.reduceMul, Nat.reduceLeDiff, Int.reduceToNat, hr, a2]
      refine callH_of (c_l9List ha hs) ?_
      rintro v m' ⟨rfl, rfl⟩
      simp -dsimp (disch := first | omega | (simp only [bys_size, ByteArray.size_append, List.length_cons, List.length_nil] ; omega)) only [xrun, ↓xpre, ↓reduceIte, xval, xops, xlib, boolV, nilV, nilN, oneC, splice, ne_eq, Nat.reduceEqDiff, Nat.reduceAdd, Nat.reduceMul, Nat.reduceLeDiff, Int.reduceToNat]
      exact wkH_self ⟨by simp [sentFt, h1, h2], rfl⟩

theorem c_l14Change {w0 : World} {m : Frag} {p : Value} {c : ChM} (hp : ptrT w0 m p (chC c)) (hok : oneF c = 0) : ACall Tryd.prog w0 n_spec_l14Change #[p] m fun v m' => v = .string (chTx c) ∧ m' = m := by
  refine acall_x mo x_spec_l14Change (by rw [p_spec_l14Change]; exact Nat.le_of_ble_eq_true rfl) ?_
  obtain ⟨n, o, cs, rest, rfl, hr, hl, h0, hat⟩ := ptrT_at hp
  have hpb := sub_ptr hp 1 (rowC c.b) ⟨_, rfl⟩ (by show 1 ≤ 10; omega)
  have hpa := sub_ptr hp 6 (rowC c.a) ⟨[], (List.append_nil _).symm⟩ (by show 6 ≤ 10; omega)
  have a5 := hat 5 (by show 5 ≤ 10; omega)
  simp only [chC, List.drop_succ_cons, List.drop_zero, List.length_cons, List.length_nil] at hl h0 a5
  obtain ⟨k1, k2, k3⟩ := oneF_ok hok
  obtain ⟨w, b, s, a⟩ := c
  simp only at h0 a5 hpa hpb k1 k2 k3
  unfold r_spec_l14Change
  cases w
  · have ka := k2 (k3 rfl)
    have sa := rowTx_size ka
    simp -dsimp (disch := first | omega | (simp only [bys_size, ByteArray.size_append, List.length_cons, List.length_nil] ; omega)) only [xrun, ↓xpre, ↓reduceIte, xval, xops, xlib, boolV, nilV, nilN, oneC, splice, ne_eq, Nat.reduceEqDiff, Nat.reduceAdd, Nat.reduceMul, Nat.reduceLeDiff, Int.reduceToNat, hr, h0]
    refine callH_of (c_l1RowText hpa ka) ?_
    rintro v m' ⟨rfl, rfl⟩
    simp -dsimp (disch := first | omega | (simp only [bys_size, ByteArray.size_append, List.length_cons, List.length_nil] ; omega)) only [xrun, ↓xpre, ↓reduceIte, xval, xops, xlib, boolV, nilV, nilN, oneC, splice, ne_eq, Nat.reduceEqDiff, Nat.reduceAdd, Nat.reduceMul, Nat.reduceLeDiff, Int.reduceToNat]
    exact wkH_self ⟨rfl, rfl⟩
  · have kb := k1 rfl
    have sb := rowTx_size kb
    cases s
    · simp -dsimp (disch := first | omega | (simp only [bys_size, ByteArray.size_append, List.length_cons, List.length_nil] ; omega)) only [xrun, ↓xpre, ↓reduceIte, xval, xops, xlib, boolV, nilV, nilN, oneC, splice, ne_eq, Nat.reduceEqDiff, Nat.reduceAdd, Nat.reduceMul, Nat.reduceLeDiff, Int.reduceToNat, hr, h0, a5]
      refine callH_of (c_l1RowText hpb kb) ?_
      rintro v m' ⟨rfl, rfl⟩
      simp -dsimp (disch := first | omega | (simp only [bys_size, ByteArray.size_append, List.length_cons, List.length_nil] ; omega)) only [xrun, ↓xpre, ↓reduceIte, xval, xops, xlib, boolV, nilV, nilN, oneC, splice, ne_eq, Nat.reduceEqDiff, Nat.reduceAdd, Nat.reduceMul, Nat.reduceLeDiff, Int.reduceToNat]
      exact wkH_self ⟨rfl, rfl⟩
    · have ka := k2 rfl
      have sa := rowTx_size ka
      simp -dsimp (disch := first | omega | (simp only [bys_size, ByteArray.size_append, List.length_cons, List.length_nil] ; omega)) only [xrun, ↓xpre, ↓reduceIte, xval, xops, xlib, boolV, nilV, nilN, oneC, splice, ne_eq, Nat.reduceEqDiff, Nat.reduceAdd, Nat.reduceMul, Nat.reduceLeDiff, Int.reduceToNat, hr, h0, a5]
      refine callH_of (c_l1RowText hpb kb) ?_
      rintro v m' ⟨rfl, rfl⟩
      simp -dsimp (disch := first | omega | (simp only [bys_size, ByteArray.size_append, List.length_cons, List.length_nil] ; omega)) only [xrun, ↓xpre, ↓reduceIte, xval, xops, xlib, boolV, nilV, nilN, oneC, splice, ne_eq, Nat.reduceEqDiff, Nat.reduceAdd, Nat.reduceMul, Nat.reduceLeDiff, Int.reduceToNat]
      refine callH_of (c_l1RowText hpa ka) ?_
      rintro v m' ⟨rfl, rfl⟩
      simp -dsimp (disch := first | omega | (simp only [bys_size, ByteArray.size_append, List.length_cons, List.length_nil] ; omega)) only [xrun, ↓xpre, ↓reduceIte, xval, xops, xlib, boolV, nilV, nilN, oneC, splice, ne_eq, Nat.reduceEqDiff, Nat.reduceAdd, Nat.reduceMul, Nat.reduceLeDiff, Int.reduceToNat]
      exact wkH_self ⟨rfl, rfl⟩

theorem c_l14Text {w0 : World} {m : Frag} {p a : Value} {at_ tx : Int} {l : List ChM} (hp : ptrT w0 m p [.int .i64 at_, .int .i64 tx, a]) (ha : slT w0 m 10 a (l.map chC)) (hok : sentFt at_ tx l = 0) : ACall Tryd.prog w0 n_spec_l14Text #[p] m fun v m' => v = .string (chsTx tx l) ∧ m' = m := by
  refine acall_x mo x_spec_l14Text (by rw [p_spec_l14Text]; exact Nat.le_of_ble_eq_true rfl) ?_
  unfold sentFt at hok
  split at hok
  rotate_left
  · cases hok
  rename_i hin
  simp only [inB, Bool.and_eq_true, decide_eq_true_eq] at hin
  have hlen := chsFt_len hok
  have hone := chsFt_ok hok
  have sd := dg_size (n := tx) (by omega) (by omega)
  obtain ⟨n, o, cs, rest, rfl, hr, hl, h0, hat⟩ := ptrT_at hp
  have a1 := hat 1 (by show 1 ≤ 3; omega)
  have a2 := hat 2 (by show 2 ≤ 3; omega)
  simp only [List.drop_succ_cons, List.drop_zero, List.length_cons, List.length_nil] at hl h0 a1 a2
  obtain ⟨ba, ca, rfl⟩ := slT_sl ha
  simp only [List.length_map] at ha a2
  unfold r_spec_l14Text
  simp -dsimp (disch := first | omega | (simp only [bys_size, ByteArray.size_append, List.length_cons, List.length_nil] ; omega)) only [xrun, ↓xpre, ↓reduceIte, xval, xops, xlib, boolV, nilV, nilN, oneC, splice, ne_eq, Nat.reduceEqDiff, Nat.reduceAdd, Nat.reduceMul, Nat.reduceLeDiff, Int.reduceToNat, hr, a1]
  refine callH_of (c_l1DigitsI (by omega) (by omega)) ?_
  rintro v m' ⟨rfl, rfl⟩
  simp -dsimp (disch := first | omega | (simp only [bys_size, ByteArray.size_append, List.length_cons, List.length_nil] ; omega)) only [xrun, ↓xpre, ↓reduceIte, xval, xops, xlib, boolV, nilV, nilN, oneC, splice, ne_eq, Nat.reduceEqDiff, Nat.reduceAdd, Nat.reduceMul, Nat.reduceLeDiff, Int.reduceToNat]
  refine loopH_of (fun k t m'' => m'' = m' ∧ ∃ i : Nat, i ≤ l.length ∧ k = l.length - i ∧ t 0 = .pointer (some ⟨n, o, Option.none⟩) ∧ t 3 = .string (chsTx tx (l.take i)) ∧ t 4 = .int .i64 i ∧ (chsTx tx (l.take i)).size ≤ 100 + i * 200) l.length ⟨rfl, 0, by omega, rfl, rfl, rfl, rfl, by
    show (bys _ ++ dg tx ++ bys _).size ≤ _
    simp only [ByteArray.size_append, bys_size, List.length_cons, List.length_nil]; omega⟩ ?_
  rintro k t _ ⟨rfl, i, hi, rfl, e0, e3, e4, hsz⟩
  simp -dsimp (disch := first | omega | (simp only [bys_size, ByteArray.size_append, List.length_cons, List.length_nil] ; omega)) only [xrun, ↓xpre, ↓reduceIte, xval, xops, xlib, boolV, nilV, nilN, oneC, splice, ne_eq, Nat.reduceEqDiff, Nat.reduceAdd, Nat.reduceMul, Nat.reduceLeDiff, Int.reduceToNat, e0, e3, e4, hr, a2]
  refine condH_of (fun hlt => ?_) (fun hge => ?_)
  · have hlt' : i < l.length := by omega
    obtain ⟨blk, ob, rfl, hpt⟩ := slT_ptr ha (i := i) (by rw [List.length_map]; exact hlt')
    rw [List.getElem_map] at hpt
    have hri := hone _ (List.getElem_mem hlt')
    have hrs := chTx_size hri
    simp -dsimp (disch := first | omega | (simp only [bys_size, ByteArray.size_append, List.length_cons, List.length_nil] ; omega)) only [xrun, ↓xpre, ↓reduceIte, xval, xops, xlib, boolV, nilV, nilN, oneC, splice, ne_eq, Nat.reduceEqDiff, Nat.reduceAdd, Nat.reduceMul, Nat.reduceLeDiff, Int.reduceToNat, e0, e3, e4, hr, a2]
    refine callH_of (c_l14Change hpt hri) ?_
    rintro v m' ⟨rfl, rfl⟩
    simp -dsimp (disch := first | omega | (simp only [bys_size, ByteArray.size_append, List.length_cons, List.length_nil] ; omega)) only [xrun, ↓xpre, ↓reduceIte, xval, xops, xlib, boolV, nilV, nilN, oneC, splice, ne_eq, Nat.reduceEqDiff, Nat.reduceAdd, Nat.reduceMul, Nat.reduceLeDiff, Int.reduceToNat, e0, e3, e4]
    refine nextI_of (l.length - (i + 1)) (by omega) ⟨rfl, i + 1, by omega, rfl, e0, ?_, rfl, ?_⟩
    · rw [chsTx_succ hlt']; rfl
    · rw [chsTx_succ hlt', ByteArray.size_append]; omega
  · have : i = l.length := by omega
    subst this
    rw [List.take_length] at e3
    simp -dsimp (disch := first | omega | (simp only [bys_size, ByteArray.size_append, List.length_cons, List.length_nil] ; omega)) only [xrun, ↓xpre, ↓reduceIte, xval, xops, xlib, boolV, nilV, nilN, oneC, splice, ne_eq, Nat.reduceEqDiff, Nat.reduceAdd, Nat.reduceMul, Nat.reduceLeDiff, Int.reduceToNat, e0, e3, e4]
    exact wkH_self ⟨rfl, rfl⟩

def sentV (at_ tx : Int) (l : List ChM) : Value := if sentFt at_ tx l = 0 then .agg #[.int .i64 0, .string (chsTx tx l)] else .agg #[.int .i64 (sentFt at_ tx l), .string (bys [])]

theorem c_specSentText {w0 : World} {m : Frag} {a : Value} {at_ tx : Int} {l : List ChM} (ha : slT w0 m 10 a (l.map chC)) (hs : ∀ r ∈ l, r.small) : ACall Tryd.prog w0 n_spec_SentText #[.agg #[.int .i64 at_, .int .i64 tx, a]] m fun v m' => v = sentV at_ tx l ∧ m' = m := by
  refine acall_x mo x_spec_SentText (by rw [p_spec_SentText]; exact Nat.le_of_ble_eq_true rfl) ?_
  unfold r_spec_SentText
  simp -dsimp (disch := first | omega | (simp only [bys_size, ByteArray.size_append, List.length_cons, List.length_nil] ; omega)) only [xrun, ↓xpre, ↓reduceIte, xval, xops, xlib, boolV, nilV, nilN, oneC, splice, ne_eq, Nat.reduceEqDiff, Nat.reduceAdd, Nat.reduceMul, Nat.reduceLeDiff, Int.reduceToNat]
  intro n hn hm
  simp -dsimp (disch := first | omega | (simp only [bys_size, ByteArray.size_append, List.length_cons, List.length_nil] ; omega)) only [xrun, ↓xpre, ↓reduceIte, xval, xops, xlib, boolV, nilV, nilN, oneC, splice, ne_eq, Nat.reduceEqDiff, Nat.reduceAdd, Nat.reduceMul, Nat.reduceLeDiff, Int.reduceToNat]
  intro n2 hn2 hm2
  obtain ⟨hne, hm2'⟩ := set_none hm2
  have hx := (Ext.set (.cells [.int .i64 at_, .int .i64 tx, a] 3 t_impl_Sent) hm).trans (Ext.set (.cells [.int .i64 0, .string (bys [])] 2 t_impl_TextResult) hm2)
  have hpt : ptrT w0 ((m.set n (.cells [.int .i64 at_, .int .i64 tx, a] 3 t_impl_Sent)).set n2 (.cells [.int .i64 0, .string (bys [])] 2 t_impl_TextResult)) (.pointer (some ⟨n, 0, Option.none⟩)) [.int .i64 at_, .int .i64 tx, a] :=
    ⟨n, 0, _, [], rfl, row_own hn (by rw [Frag.set_ne _ _ (Ne.symm hne)]; exact Frag.set_same _ _ _), by simp, by simp⟩
  simp -dsimp (disch := first | omega | (simp only [bys_size, ByteArray.size_append, List.length_cons, List.length_nil] ; omega)) only [xrun, ↓xpre, ↓reduceIte, xval, xops, xlib, boolV, nilV, nilN, oneC, splice, ne_eq, Nat.reduceEqDiff, Nat.reduceAdd, Nat.reduceMul, Nat.reduceLeDiff, Int.reduceToNat]
  refine callH_of (c_l14Sent hpt (slT_ext hx ha) hs) ?_
  rintro v m' ⟨rfl, rfl⟩
  have fin : ∀ Y : Blk, Ext m ((m.set n (.cells [.int .i64 at_, .int .i64 tx, a] 3 t_impl_Sent)).set n2 Y) := fun Y q bq hq => by
    have q1 : q ≠ n := fun e => by subst e; rw [hq] at hm; cases hm
    have q2 : q ≠ n2 := fun e => by subst e; rw [hq] at hm2'; cases hm2'
    rw [Frag.set_ne _ _ q2, Frag.set_ne _ _ q1]; exact hq
  simp -dsimp (disch := first | omega | (simp only [bys_size, ByteArray.size_append, List.length_cons, List.length_nil] ; omega)) only [xrun, ↓xpre, ↓reduceIte, xval, xops, xlib, boolV, nilV, nilN, oneC, splice, ne_eq, Nat.reduceEqDiff, Nat.reduceAdd, Nat.reduceMul, Nat.reduceLeDiff, Int.reduceToNat]
  refine condH_of (fun h => ?_) (fun h => ?_)
  · simp -dsimp (disch := first | omega | (simp only [bys_size, ByteArray.size_append, List.length_cons, List.length_nil] ; omega)) only [xrun, ↓xpre, ↓reduceIte, xval, xops, xlib, boolV, nilV, nilN, oneC, splice, ne_eq, Nat.reduceEqDiff, Nat.reduceAdd, Nat.reduceMul, Nat.reduceLeDiff, Int.reduceToNat]
    exact wkH_ext (fin _) ⟨by unfold sentV; rw [if_neg h], rfl⟩
  · have h0 : sentFt at_ tx l = 0 := by omega
    simp -dsimp (disch := first | omega | (simp only [bys_size, ByteArray.size_append, List.length_cons, List.length_nil] ; omega)) only [xrun, ↓xpre, ↓reduceIte, xval, xops, xlib, boolV, nilV, nilN, oneC, splice, ne_eq, Nat.reduceEqDiff, Nat.reduceAdd, Nat.reduceMul, Nat.reduceLeDiff, Int.reduceToNat]
    refine callH_of (c_l14Text hpt (slT_ext hx ha) h0) ?_
    rintro v m' ⟨rfl, rfl⟩
    simp -dsimp (disch := first | omega | (simp only [bys_size, ByteArray.size_append, List.length_cons, List.length_nil] ; omega)) only [xrun, ↓xpre, ↓reduceIte, xval, xops, xlib, boolV, nilV, nilN, oneC, splice, ne_eq, Nat.reduceEqDiff, Nat.reduceAdd, Nat.reduceMul, Nat.reduceLeDiff, Int.reduceToNat]
    exact wkH_ext (fin _) ⟨by unfold sentV; rw [if_pos h0], rfl⟩

theorem c_sentFault {w0 : World} {m : Frag} {a : Value} {at_ tx : Int} {l : List ChM} (ha : slT w0 m 10 a (l.map chC)) (hs : ∀ r ∈ l, r.small) : ACall Tryd.prog w0 n_impl_sentFault #[.agg #[.int .i64 at_, .int .i64 tx, a]] m fun v m' => v = .int .i64 (sentFt at_ tx l) ∧ m' = m := by
  refine acall_x mo x_impl_sentFault (by rw [p_impl_sentFault]; exact Nat.le_of_ble_eq_true rfl) ?_
  unfold r_impl_sentFault
  simp -dsimp (disch := first | omega | (simp only [bys_size, ByteArray.size_append, List.length_cons, List.length_nil] ; omega)) only [xrun, ↓xpre, ↓reduceIte, xval, xops, xlib, boolV, nilV, nilN, oneC, splice, ne_eq, Nat.reduceEqDiff, Nat.reduceAdd, Nat.reduceMul, Nat.reduceLeDiff, Int.reduceToNat]
  intro n hn hm
  have hx := Ext.set (.cells [.int .i64 at_, .int .i64 tx, a] 3 t_impl_Sent) hm
  simp -dsimp (disch := first | omega | (simp only [bys_size, ByteArray.size_append, List.length_cons, List.length_nil] ; omega)) only [xrun, ↓xpre, ↓reduceIte, xval, xops, xlib, boolV, nilV, nilN, oneC, splice, ne_eq, Nat.reduceEqDiff, Nat.reduceAdd, Nat.reduceMul, Nat.reduceLeDiff, Int.reduceToNat]
  refine callH_of c_in ?_
  rintro v m' ⟨rfl, rfl⟩
  simp -dsimp (disch := first | omega | (simp only [bys_size, ByteArray.size_append, List.length_cons, List.length_nil] ; omega)) only [xrun, ↓xpre, ↓reduceIte, xval, xops, xlib, boolV, nilV, nilN, oneC, splice, ne_eq, Nat.reduceEqDiff, Nat.reduceAdd, Nat.reduceMul, Nat.reduceLeDiff, Int.reduceToNat]
  cases h1 : inB at_ 0 16000 with
  | false =>
    simp -dsimp (disch := first | omega | (simp only [bys_size, ByteArray.size_append, List.length_cons, List.length_nil] ; omega)) only [xrun, ↓xpre, ↓reduceIte, xval, xops, xlib, boolV, nilV, nilN, oneC, splice, ne_eq, Nat.reduceEqDiff, Nat.reduceAdd, Nat.reduceMul, Nat.reduceLeDiff, Int.reduceToNat]
    exact wkH_ext hx ⟨by simp [sentFt, h1], rfl⟩
  | true =>
    simp -dsimp (disch := first | omega | (simp only [bys_size, ByteArray.size_append, List.length_cons, List.length_nil] ; omega)) only [xrun, ↓xpre, ↓reduceIte, xval, xops, xlib, boolV, nilV, nilN, oneC, splice, ne_eq, Nat.reduceEqDiff, Nat.reduceAdd, Nat.reduceMul, Nat.reduceLeDiff, Int.reduceToNat]
    refine callH_of c_isTx ?_
    rintro v m' ⟨rfl, rfl⟩
    simp -dsimp (disch := first | omega | (simp only [bys_size, ByteArray.size_append, List.length_cons, List.length_nil] ; omega)) only [xrun, ↓xpre, ↓reduceIte, xval, xops, xlib, boolV, nilV, nilN, oneC, splice, ne_eq, Nat.reduceEqDiff, Nat.reduceAdd, Nat.reduceMul, Nat.reduceLeDiff, Int.reduceToNat]
    cases h2 : inB tx 1 99 with
    | false =>
      simp -dsimp (disch := first | omega | (simp only [bys_size, ByteArray.size_append, List.length_cons, List.length_nil] ; omega)) only [xrun, ↓xpre, ↓reduceIte, xval, xops, xlib, boolV, nilV, nilN, oneC, splice, ne_eq, Nat.reduceEqDiff, Nat.reduceAdd, Nat.reduceMul, Nat.reduceLeDiff, Int.reduceToNat]
      exact wkH_ext hx ⟨by simp [sentFt, h1, h2], rfl⟩
    | true =>
      simp -dsimp (disch := first | omega | (simp only [bys_size, ByteArray.size_append, List.length_cons, List.length_nil] ; omega)) only [xrun, ↓xpre, ↓reduceIte, xval, xops, xlib, boolV, nilV, nilN, oneC, splice, ne_eq, Nat.reduceEqDiff, Nat.reduceAdd, Nat.reduceMul, Nat.reduceLeDiff, Int.reduceToNat]
      refine callH_of (c_foldedFault (slT_ext hx ha) hs) ?_
      rintro v m' ⟨rfl, rfl⟩
      simp -dsimp (disch := first | omega | (simp only [bys_size, ByteArray.size_append, List.length_cons, List.length_nil] ; omega)) only [xrun, ↓xpre, ↓reduceIte, xval, xops, xlib, boolV, nilV, nilN, oneC, splice, ne_eq, Nat.reduceEqDiff, Nat.reduceAdd, Nat.reduceMul, Nat.reduceLeDiff, Int.reduceToNat]
      exact wkH_ext hx ⟨by simp [sentFt, h1, h2], rfl⟩

end Go.Proofs.YtemaflbbcihilaaDoor.Fl
