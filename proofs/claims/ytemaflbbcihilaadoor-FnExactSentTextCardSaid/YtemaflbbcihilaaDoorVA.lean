/- The law of SentText, told by contract. No conditions. -/
import Derived.Test.YtemaflbbcihilaaDoorV9
namespace Go.Proofs.YtemaflbbcihilaaDoor.Fl
open Go Go.RowKit
set_option linter.unusedSimpArgs false
set_option linter.unusedVariables false

theorem c_implSentText0 {w0 : World} {m : Frag} {a : Value} {at_ tx : Int} {l : List ChM} (ht : TabOk w0) (ha : slT w0 m 10 a (l.map chC)) (hok : sentFt at_ tx l = 0) : ACall Tryd.prog w0 n_impl_sentText #[.agg #[.int .i64 at_, .int .i64 tx, a]] m fun v m' => v = .string (chsTx tx l) ∧ m' = m := by
  refine acall_x mo x_impl_sentText (by rw [p_impl_sentText]; exact Nat.le_of_ble_eq_true rfl) ?_
  unfold sentFt at hok
  split at hok
  rotate_left
  · cases hok
  rename_i hin
  simp only [inB, Bool.and_eq_true, decide_eq_true_eq] at hin
  have hlen := chsFt_len hok
  have hone := chsFt_ok hok
  have sd := dg_size (n := tx) (by omega) (by omega)
  obtain ⟨ba, ca, rfl⟩ := slT_sl ha
  simp only [List.length_map] at ha
  simp only [List.length_map]
  unfold r_impl_sentText
  simp -dsimp (disch := first | omega | (simp only [bys_size, ByteArray.size_append, List.length_cons, List.length_nil] ; omega)) only [xrun, ↓xpre, ↓reduceIte, xval, xops, xlib, boolV, nilV, nilN, oneC, splice, ne_eq, Nat.reduceEqDiff, Nat.reduceAdd, Nat.reduceMul, Nat.reduceLeDiff, Int.reduceToNat]
  intro n hn hm
  have hx := Ext.set (.cells [.int .i64 at_, .int .i64 tx, .slice ba l.length ca] 3 t_impl_Sent) hm
  simp -dsimp (disch := first | omega | (simp only [bys_size, ByteArray.size_append, List.length_cons, List.length_nil] ; omega)) only [xrun, ↓xpre, ↓reduceIte, xval, xops, xlib, boolV, nilV, nilN, oneC, splice, ne_eq, Nat.reduceEqDiff, Nat.reduceAdd, Nat.reduceMul, Nat.reduceLeDiff, Int.reduceToNat]
  refine callH_of (c_digits ht (by omega) (by omega)) ?_
  rintro v m' ⟨rfl, rfl⟩
  simp -dsimp (disch := first | omega | (simp only [bys_size, ByteArray.size_append, List.length_cons, List.length_nil] ; omega)) only [xrun, ↓xpre, ↓reduceIte, xval, xops, xlib, boolV, nilV, nilN, oneC, splice, ne_eq, Nat.reduceEqDiff, Nat.reduceAdd, Nat.reduceMul, Nat.reduceLeDiff, Int.reduceToNat]
  refine loopH_of (fun k t m'' => Ext m m'' ∧ ∃ i : Nat, i ≤ l.length ∧ k = l.length - i ∧ t 12 = .slice ba l.length ca ∧ t 13 = .int .i64 l.length ∧ t 3 = .string (chsTx tx (l.take i)) ∧ t 14 = .int .i64 i ∧ (chsTx tx (l.take i)).size ≤ 100 + i * 200) l.length ⟨hx, 0, by omega, rfl, rfl, rfl, rfl, rfl, by
    show (bys _ ++ dg tx ++ bys _).size ≤ _
    simp only [ByteArray.size_append, bys_size, List.length_cons, List.length_nil]; omega⟩ ?_
  rintro k t m1 ⟨hx1, i, hi, rfl, e12, e13, e3, e14, hsz⟩
  simp -dsimp (disch := first | omega | (simp only [bys_size, ByteArray.size_append, List.length_cons, List.length_nil] ; omega)) only [xrun, ↓xpre, ↓reduceIte, xval, xops, xlib, boolV, nilV, nilN, oneC, splice, ne_eq, Nat.reduceEqDiff, Nat.reduceAdd, Nat.reduceMul, Nat.reduceLeDiff, Int.reduceToNat, e12, e13, e14]
  refine condH_of (fun hlt => ?_) (fun hge => ?_)
  · have hlt' : i < l.length := by omega
    obtain ⟨blk, o, rfl⟩ := slT_some ha (i := i) (by rw [List.length_map]; exact hlt')
    obtain ⟨cs, hr, hl1, e1⟩ := slT_ch (slT_ext hx1 ha) hlt'
    have hri := hone _ (List.getElem_mem hlt')
    have hrs := chTx_size hri
    have hb4 : i * 10 + 10 ≤ l.length * 10 := by omega
    have next : ∀ (t' : Tm) (m2 : Frag), Ext m m2 → t' 12 = .slice (some ⟨blk, o, Option.none⟩) l.length ca → t' 13 = .int .i64 l.length → t' 14 = .int .i64 ((i : Int) + 1) → t' 3 = .string (chsTx tx (l.take i) ++ chTx l[i]) → nextI (fun k t m'' => Ext m m'' ∧ ∃ i : Nat, i ≤ l.length ∧ k = l.length - i ∧ t 12 = .slice (some ⟨blk, o, Option.none⟩) l.length ca ∧ t 13 = .int .i64 l.length ∧ t 3 = .string (chsTx tx (l.take i)) ∧ t 14 = .int .i64 i ∧ (chsTx tx (l.take i)).size ≤ 100 + i * 200) (l.length - i) t' m2 := by
      intro t' m2 g1 g2 g3 g4 g5
      refine nextI_of (l.length - (i + 1)) (by omega) ⟨g1, i + 1, by omega, rfl, g2, g3, ?_, g4, ?_⟩
      · rw [chsTx_succ hlt']; exact g5
      · rw [chsTx_succ hlt', ByteArray.size_append]; omega
    obtain ⟨k1, k2, k3⟩ := oneF_ok hri
    generalize l[i] = c at *
    obtain ⟨w, b, s, a⟩ := c
    simp only at k1 k2 k3
    simp only [chC] at e1
    cases w
    · have ka := k2 (k3 rfl)
      have sa := rowTx_size ka
      simp -dsimp (disch := first | omega | (simp only [bys_size, ByteArray.size_append, List.length_cons, List.length_nil] ; omega)) only [xrun, ↓xpre, ↓reduceIte, xval, xops, xlib, boolV, nilV, nilN, oneC, splice, ne_eq, Nat.reduceEqDiff, Nat.reduceAdd, Nat.reduceMul, Nat.reduceLeDiff, Int.reduceToNat, e12, e13, e14, hr, e1]
      intro q hq hqm
      simp -dsimp (disch := first | omega | (simp only [bys_size, ByteArray.size_append, List.length_cons, List.length_nil] ; omega)) only [xrun, ↓xpre, ↓reduceIte, xval, xops, xlib, boolV, nilV, nilN, oneC, splice, ne_eq, Nat.reduceEqDiff, Nat.reduceAdd, Nat.reduceMul, Nat.reduceLeDiff, Int.reduceToNat, e12, e13, e14, e3]
      refine callH_of (c_rowText (r := a) ht ka) ?_
      rintro v m' ⟨rfl, rfl⟩
      simp -dsimp (disch := first | omega | (simp only [bys_size, ByteArray.size_append, List.length_cons, List.length_nil] ; omega)) only [xrun, ↓xpre, ↓reduceIte, xval, xops, xlib, boolV, nilV, nilN, oneC, splice, ne_eq, Nat.reduceEqDiff, Nat.reduceAdd, Nat.reduceMul, Nat.reduceLeDiff, Int.reduceToNat, e12, e13, e14, e3]
      exact next _ _ (hx1.trans (Ext.set _ hqm)) e12 e13 rfl (by unfold chTx; simp only [Bool.false_eq_true, if_false]; rfl)
    · have kb := k1 rfl
      have sb := rowTx_size kb
      cases s
      · simp -dsimp (disch := first | omega | (simp only [bys_size, ByteArray.size_append, List.length_cons, List.length_nil] ; omega)) only [xrun, ↓xpre, ↓reduceIte, xval, xops, xlib, boolV, nilV, nilN, oneC, splice, ne_eq, Nat.reduceEqDiff, Nat.reduceAdd, Nat.reduceMul, Nat.reduceLeDiff, Int.reduceToNat, e12, e13, e14, hr, e1]
        intro q hq hqm
        simp -dsimp (disch := first | omega | (simp only [bys_size, ByteArray.size_append, List.length_cons, List.length_nil] ; omega)) only [xrun, ↓xpre, ↓reduceIte, xval, xops, xlib, boolV, nilV, nilN, oneC, splice, ne_eq, Nat.reduceEqDiff, Nat.reduceAdd, Nat.reduceMul, Nat.reduceLeDiff, Int.reduceToNat, e12, e13, e14, e3]
        refine callH_of (c_rowText (r := b) ht kb) ?_
        rintro v m' ⟨rfl, rfl⟩
        simp -dsimp (disch := first | omega | (simp only [bys_size, ByteArray.size_append, List.length_cons, List.length_nil] ; omega)) only [xrun, ↓xpre, ↓reduceIte, xval, xops, xlib, boolV, nilV, nilN, oneC, splice, ne_eq, Nat.reduceEqDiff, Nat.reduceAdd, Nat.reduceMul, Nat.reduceLeDiff, Int.reduceToNat, e12, e13, e14, e3]
        exact next _ _ (hx1.trans (Ext.set _ hqm)) e12 e13 rfl (by unfold chTx; simp only [Bool.false_eq_true, if_false, if_true]; rfl)
      · have ka := k2 rfl
        have sa := rowTx_size ka
        simp -dsimp (disch := first | omega | (simp only [bys_size, ByteArray.size_append, List.length_cons, List.length_nil] ; omega)) only [xrun, ↓xpre, ↓reduceIte, xval, xops, xlib, boolV, nilV, nilN, oneC, splice, ne_eq, Nat.reduceEqDiff, Nat.reduceAdd, Nat.reduceMul, Nat.reduceLeDiff, Int.reduceToNat, e12, e13, e14, hr, e1]
        intro q hq hqm
        simp -dsimp (disch := first | omega | (simp only [bys_size, ByteArray.size_append, List.length_cons, List.length_nil] ; omega)) only [xrun, ↓xpre, ↓reduceIte, xval, xops, xlib, boolV, nilV, nilN, oneC, splice, ne_eq, Nat.reduceEqDiff, Nat.reduceAdd, Nat.reduceMul, Nat.reduceLeDiff, Int.reduceToNat, e12, e13, e14, e3]
        refine callH_of (c_rowText (r := b) ht kb) ?_
        rintro v m' ⟨rfl, rfl⟩
        simp -dsimp (disch := first | omega | (simp only [bys_size, ByteArray.size_append, List.length_cons, List.length_nil] ; omega)) only [xrun, ↓xpre, ↓reduceIte, xval, xops, xlib, boolV, nilV, nilN, oneC, splice, ne_eq, Nat.reduceEqDiff, Nat.reduceAdd, Nat.reduceMul, Nat.reduceLeDiff, Int.reduceToNat, e12, e13, e14, e3]
        refine callH_of (c_rowText (r := a) ht ka) ?_
        rintro v m' ⟨rfl, rfl⟩
        simp -dsimp (disch := first | omega | (simp only [bys_size, ByteArray.size_append, List.length_cons, List.length_nil] ; omega)) only [xrun, ↓xpre, ↓reduceIte, xval, xops, xlib, boolV, nilV, nilN, oneC, splice, ne_eq, Nat.reduceEqDiff, Nat.reduceAdd, Nat.reduceMul, Nat.reduceLeDiff, Int.reduceToNat, e12, e13, e14, e3]
        exact next _ _ (hx1.trans (Ext.set _ hqm)) e12 e13 rfl (by unfold chTx; simp only [if_true]; rfl)
  · have : i = l.length := by omega
    subst this
    rw [List.take_length] at e3
    simp -dsimp (disch := first | omega | (simp only [bys_size, ByteArray.size_append, List.length_cons, List.length_nil] ; omega)) only [xrun, ↓xpre, ↓reduceIte, xval, xops, xlib, boolV, nilV, nilN, oneC, splice, ne_eq, Nat.reduceEqDiff, Nat.reduceAdd, Nat.reduceMul, Nat.reduceLeDiff, Int.reduceToNat, e12, e13, e14, e3]
    exact wkH_ext hx1 ⟨rfl, rfl⟩

theorem c_implSentText {w0 : World} {m : Frag} {a : Value} {at_ tx : Int} {l : List ChM} (ht : TabOk w0) (ha : slT w0 m 10 a (l.map chC)) (hs : ∀ r ∈ l, r.small) : ACall Tryd.prog w0 n_impl_SentText #[.agg #[.int .i64 at_, .int .i64 tx, a]] m fun v m' => v = sentV at_ tx l ∧ m' = m := by
  refine acall_x mo x_impl_SentText (by rw [p_impl_SentText]; exact Nat.le_of_ble_eq_true rfl) ?_
  unfold r_impl_SentText
  simp -dsimp (disch := first | omega | (simp only [bys_size, ByteArray.size_append, List.length_cons, List.length_nil] ; omega)) only [xrun, ↓xpre, ↓reduceIte, xval, xops, xlib, boolV, nilV, nilN, oneC, splice, ne_eq, Nat.reduceEqDiff, Nat.reduceAdd, Nat.reduceMul, Nat.reduceLeDiff, Int.reduceToNat]
  intro n hn hm
  simp -dsimp (disch := first | omega | (simp only [bys_size, ByteArray.size_append, List.length_cons, List.length_nil] ; omega)) only [xrun, ↓xpre, ↓reduceIte, xval, xops, xlib, boolV, nilV, nilN, oneC, splice, ne_eq, Nat.reduceEqDiff, Nat.reduceAdd, Nat.reduceMul, Nat.reduceLeDiff, Int.reduceToNat]
  intro n2 hn2 hm2
  obtain ⟨hne, hm2'⟩ := set_none hm2
  have hne' := Ne.symm hne
  have hx := (Ext.set (.cells [.int .i64 at_, .int .i64 tx, a] 3 t_impl_Sent) hm).trans (Ext.set (.cells [.int .i64 0, .string (bys [])] 2 t_impl_TextResult) hm2)
  simp -dsimp (disch := first | omega | (simp only [bys_size, ByteArray.size_append, List.length_cons, List.length_nil] ; omega)) only [xrun, ↓xpre, ↓reduceIte, xval, xops, xlib, boolV, nilV, nilN, oneC, splice, ne_eq, Nat.reduceEqDiff, Nat.reduceAdd, Nat.reduceMul, Nat.reduceLeDiff, Int.reduceToNat, hne, hne']
  refine callH_of (c_sentFault (slT_ext hx ha) hs) ?_
  rintro v m' ⟨rfl, rfl⟩
  have fin : ∀ Y : Blk, Ext m ((m.set n (.cells [.int .i64 at_, .int .i64 tx, a] 3 t_impl_Sent)).set n2 Y) := fun Y q bq hq => by
    have q1 : q ≠ n := fun e => by subst e; rw [hq] at hm; cases hm
    have q2 : q ≠ n2 := fun e => by subst e; rw [hq] at hm2'; cases hm2'
    rw [Frag.set_ne _ _ q2, Frag.set_ne _ _ q1]; exact hq
  simp -dsimp (disch := first | omega | (simp only [bys_size, ByteArray.size_append, List.length_cons, List.length_nil] ; omega)) only [xrun, ↓xpre, ↓reduceIte, xval, xops, xlib, boolV, nilV, nilN, oneC, splice, ne_eq, Nat.reduceEqDiff, Nat.reduceAdd, Nat.reduceMul, Nat.reduceLeDiff, Int.reduceToNat]
  refine condH_of (fun h => ?_) (fun h => ?_)
  · simp -dsimp (disch := first | omega | (simp only [bys_size, ByteArray.size_append, List.length_cons, List.length_nil] ; omega)) only [xrun, ↓xpre, ↓reduceIte, xval, xops, xlib, boolV, nilV, nilN, oneC, splice, ne_eq, Nat.reduceEqDiff, Nat.reduceAdd, Nat.reduceMul, Nat.reduceLeDiff, Int.reduceToNat]
    exact wkH_ext (fin _) ⟨by unfold sentV; rw [if_neg h], rfl⟩
  · have h0 : sentFt at_ tx l = 0 := by omega
    simp -dsimp (disch := first | omega | (simp only [bys_size, ByteArray.size_append, List.length_cons, List.length_nil] ; omega)) only [xrun, ↓xpre, ↓reduceIte, xval, xops, xlib, boolV, nilV, nilN, oneC, splice, ne_eq, Nat.reduceEqDiff, Nat.reduceAdd, Nat.reduceMul, Nat.reduceLeDiff, Int.reduceToNat, hne, hne']
    refine callH_of (c_implSentText0 ht (slT_ext hx ha) h0) ?_
    rintro v m' ⟨rfl, rfl⟩
    simp -dsimp (disch := first | omega | (simp only [bys_size, ByteArray.size_append, List.length_cons, List.length_nil] ; omega)) only [xrun, ↓xpre, ↓reduceIte, xval, xops, xlib, boolV, nilV, nilN, oneC, splice, ne_eq, Nat.reduceEqDiff, Nat.reduceAdd, Nat.reduceMul, Nat.reduceLeDiff, Int.reduceToNat]
    exact wkH_ext (fin _) ⟨by unfold sentV; rw [if_pos h0], rfl⟩

theorem c_szSent {w0 : World} {m : Frag} {a : Value} {at_ tx z : Int} {l : List ChM} (ha : slT w0 m 10 a (l.map chC)) (hs : ∀ r ∈ l, r.fit) (hz : 0 ≤ z ∧ z ≤ 2 ^ 61) : ACall Tryd.prog w0 n_laws_szSent #[.agg #[.int .i64 at_, .int .i64 tx, a], .int .i64 z] m fun v m' => v = .int .i64 (if szChs l z < 0 then -1 else szChs l z) ∧ m' = m := by
  refine acall_x mo x_laws_szSent (by rw [p_laws_szSent]; exact Nat.le_of_ble_eq_true rfl) ?_
  unfold r_laws_szSent
  simp -dsimp (disch := first | omega | (simp only [bys_size, ByteArray.size_append, List.length_cons, List.length_nil] ; omega)) only [xrun, ↓xpre, ↓reduceIte, xval, xops, xlib, boolV, nilV, nilN, oneC, splice, ne_eq, Nat.reduceEqDiff, Nat.reduceAdd, Nat.reduceMul, Nat.reduceLeDiff, Int.reduceToNat]
  intro n hn hm
  have hx := Ext.set (.cells [.int .i64 at_, .int .i64 tx, a] 3 t_laws_Sent) hm
  simp -dsimp (disch := first | omega | (simp only [bys_size, ByteArray.size_append, List.length_cons, List.length_nil] ; omega)) only [xrun, ↓xpre, ↓reduceIte, xval, xops, xlib, boolV, nilV, nilN, oneC, splice, ne_eq, Nat.reduceEqDiff, Nat.reduceAdd, Nat.reduceMul, Nat.reduceLeDiff, Int.reduceToNat]
  refine callH_of (c_szChangeS (slT_ext hx ha) hs hz) ?_
  rintro v m' ⟨rfl, rfl⟩
  simp -dsimp (disch := first | omega | (simp only [bys_size, ByteArray.size_append, List.length_cons, List.length_nil] ; omega)) only [xrun, ↓xpre, ↓reduceIte, xval, xops, xlib, boolV, nilV, nilN, oneC, splice, ne_eq, Nat.reduceEqDiff, Nat.reduceAdd, Nat.reduceMul, Nat.reduceLeDiff, Int.reduceToNat]
  refine condH_of (fun h => ?_) (fun h => ?_)
  · simp -dsimp (disch := first | omega | (simp only [bys_size, ByteArray.size_append, List.length_cons, List.length_nil] ; omega)) only [xrun, ↓xpre, ↓reduceIte, xval, xops, xlib, boolV, nilV, nilN, oneC, splice, ne_eq, Nat.reduceEqDiff, Nat.reduceAdd, Nat.reduceMul, Nat.reduceLeDiff, Int.reduceToNat]
    exact wkH_ext hx ⟨by rw [if_pos h], rfl⟩
  · simp -dsimp (disch := first | omega | (simp only [bys_size, ByteArray.size_append, List.length_cons, List.length_nil] ; omega)) only [xrun, ↓xpre, ↓reduceIte, xval, xops, xlib, boolV, nilV, nilN, oneC, splice, ne_eq, Nat.reduceEqDiff, Nat.reduceAdd, Nat.reduceMul, Nat.reduceLeDiff, Int.reduceToNat]
    exact wkH_ext hx ⟨by rw [if_neg h], rfl⟩

theorem flat_chs {l : List ChM} : ∀ c ∈ l.map chC, c.length = 10 := by
  intro c hc; obtain ⟨r, _, rfl⟩ := List.mem_map.1 hc; rfl

theorem own_chs {w0 : World} {m m1 : Frag} {e : TypeId} {v : Value} {l : List ChM} (h : OwnR w0 m m1 10 e v l.length (l.map chC).flatten) (hl : l.length ≤ 2 ^ 40) : slT w0 m1 10 v (l.map chC) := by
  refine OwnR.sl (m := m) (e := e) ?_ flat_chs (by rw [List.length_map]; exact hl)
  rw [List.length_map]; exact h

theorem c_toSent {w0 : World} {m : Frag} {a : Value} {at_ tx : Int} {l : List ChM} (ha : slT w0 m 10 a (l.map chC)) (hl : l.length ≤ 2 ^ 27) : ACall Tryd.prog w0 n_laws_toSent #[.agg #[.int .i64 at_, .int .i64 tx, a]] m fun v m' => Ext m m' ∧ ∃ b, v = .agg #[.int .i64 at_, .int .i64 tx, b] ∧ slT w0 m' 10 b (l.map chC) := by
  refine acall_x mo x_laws_toSent (by rw [p_laws_toSent]; exact Nat.le_of_ble_eq_true rfl) ?_
  unfold r_laws_toSent
  simp -dsimp (disch := first | omega | (simp only [bys_size, ByteArray.size_append, List.length_cons, List.length_nil] ; omega)) only [xrun, ↓xpre, ↓reduceIte, xval, xops, xlib, boolV, nilV, nilN, oneC, splice, ne_eq, Nat.reduceEqDiff, Nat.reduceAdd, Nat.reduceMul, Nat.reduceLeDiff, Int.reduceToNat]
  intro n hn hm
  simp -dsimp (disch := first | omega | (simp only [bys_size, ByteArray.size_append, List.length_cons, List.length_nil] ; omega)) only [xrun, ↓xpre, ↓reduceIte, xval, xops, xlib, boolV, nilV, nilN, oneC, splice, ne_eq, Nat.reduceEqDiff, Nat.reduceAdd, Nat.reduceMul, Nat.reduceLeDiff, Int.reduceToNat]
  intro n2 hn2 hm2
  obtain ⟨hne, hm2'⟩ := set_none hm2
  have hne' := Ne.symm hne
  simp -dsimp (disch := first | omega | (simp only [bys_size, ByteArray.size_append, List.length_cons, List.length_nil] ; omega)) only [xrun, ↓xpre, ↓reduceIte, xval, xops, xlib, boolV, nilV, nilN, oneC, splice, ne_eq, Nat.reduceEqDiff, Nat.reduceAdd, Nat.reduceMul, Nat.reduceLeDiff, Int.reduceToNat, hne, hne']
  intro n3 hn3 hm3
  obtain ⟨hne3, hm3'⟩ := set_none hm3
  obtain ⟨hne4, hm3''⟩ := set_none hm3'
  have hne3' := Ne.symm hne3
  have hne4' := Ne.symm hne4
  simp -dsimp (disch := first | omega | (simp only [bys_size, ByteArray.size_append, List.length_cons, List.length_nil] ; omega)) only [xrun, ↓xpre, ↓reduceIte, xval, xops, xlib, boolV, nilV, nilN, oneC, splice, ne_eq, Nat.reduceEqDiff, Nat.reduceAdd, Nat.reduceMul, Nat.reduceLeDiff, Int.reduceToNat, hne, hne', hne3, hne4, hne3', hne4', cellsOf_ne]
  refine callH_of (c_toChangeS (slT_ext (ext_set3 hm hm2' hm3'') ha) hl) ?_
  intro v m4 o4
  have sb := own_chs o4 (by omega)
  obtain ⟨b4, c4, rfl⟩ := o4.shape
  have x4 := o4.keep
  have r3 := cellsOf_of (x4 n3 _ (Frag.set_same _ _ _))
  have r2 := cellsOf_of (x4 n2 _ (by rw [Frag.set_ne _ _ hne3']; exact Frag.set_same _ _ _))
  simp -dsimp (disch := first | omega | (simp only [bys_size, ByteArray.size_append, List.length_cons, List.length_nil] ; omega)) only [xrun, ↓xpre, ↓reduceIte, xval, xops, xlib, boolV, nilV, nilN, oneC, splice, ne_eq, Nat.reduceEqDiff, Nat.reduceAdd, Nat.reduceMul, Nat.reduceLeDiff, Int.reduceToNat, hne, hne', hne3, hne4, hne3', hne4', cellsOf_ne, r3, r2]
  have x5 : ∀ X Y : Blk, Ext m ((m4.set n3 X).set n2 Y) := fun X Y q bq hq => by
    have q1 : q ≠ n := fun e => by subst e; rw [hq] at hm; cases hm
    have q2 : q ≠ n2 := fun e => by subst e; rw [hq] at hm2'; cases hm2'
    have q3 : q ≠ n3 := fun e => by subst e; rw [hq] at hm3''; cases hm3''
    rw [Frag.set_ne _ _ q2, Frag.set_ne _ _ q3]
    exact x4 _ _ (by rw [Frag.set_ne _ _ q3, Frag.set_ne _ _ q2, Frag.set_ne _ _ q1]; exact hq)
  refine wkH_self ⟨x5 _ _, _, rfl, ?_⟩
  have o5 := (o4.upd (Y := .cells [.int .i64 at_, .int .i64 tx, .slice b4 l.length c4] 3 t_impl_Sent) (Frag.set_same _ _ _)).upd (q := n2) (Y := .cells [.int .i64 at_, .int .i64 tx, .slice b4 l.length c4] 3 t_impl_Sent) (by rw [Frag.set_ne _ _ hne3', Frag.set_ne _ _ hne3']; exact Frag.set_same _ _ _)
  exact own_chs o5 (by omega)

theorem c_eqSent {w0 : World} {m : Frag} {a b : Value} {at_ tx : Int} {l : List ChM} (ha : slT w0 m 10 a (l.map chC)) (hb : slT w0 m 10 b (l.map chC)) : ACall Tryd.prog w0 n_laws_eqSent #[.agg #[.int .i64 at_, .int .i64 tx, a], .agg #[.int .i64 at_, .int .i64 tx, b]] m fun v m' => v = .bool true ∧ m' = m := by
  refine acall_x mo x_laws_eqSent (by rw [p_laws_eqSent]; exact Nat.le_of_ble_eq_true rfl) ?_
  unfold r_laws_eqSent
  simp -dsimp (disch := first | omega | (simp only [bys_size, ByteArray.size_append, List.length_cons, List.length_nil] ; omega)) only [xrun, ↓xpre, ↓reduceIte, xval, xops, xlib, boolV, nilV, nilN, oneC, splice, ne_eq, Nat.reduceEqDiff, Nat.reduceAdd, Nat.reduceMul, Nat.reduceLeDiff, Int.reduceToNat]
  intro n hn hm
  simp -dsimp (disch := first | omega | (simp only [bys_size, ByteArray.size_append, List.length_cons, List.length_nil] ; omega)) only [xrun, ↓xpre, ↓reduceIte, xval, xops, xlib, boolV, nilV, nilN, oneC, splice, ne_eq, Nat.reduceEqDiff, Nat.reduceAdd, Nat.reduceMul, Nat.reduceLeDiff, Int.reduceToNat]
  intro n2 hn2 hm2
  obtain ⟨hne, hm2'⟩ := set_none hm2
  have hne' := Ne.symm hne
  have hx := (Ext.set (.cells [.int .i64 at_, .int .i64 tx, a] 3 t_impl_Sent) hm).trans (Ext.set (.cells [.int .i64 at_, .int .i64 tx, b] 3 t_impl_Sent) hm2)
  simp -dsimp (disch := first | omega | (simp only [bys_size, ByteArray.size_append, List.length_cons, List.length_nil] ; omega)) only [xrun, ↓xpre, ↓reduceIte, xval, xops, xlib, boolV, nilV, nilN, oneC, splice, ne_eq, Nat.reduceEqDiff, Nat.reduceAdd, Nat.reduceMul, Nat.reduceLeDiff, Int.reduceToNat, hne, hne']
  refine callH_of (c_eqChangeS (slT_ext hx ha) (slT_ext hx hb)) ?_
  rintro v m' ⟨rfl, rfl⟩
  simp -dsimp (disch := first | omega | (simp only [bys_size, ByteArray.size_append, List.length_cons, List.length_nil] ; omega)) only [xrun, ↓xpre, ↓reduceIte, xval, xops, xlib, boolV, nilV, nilN, oneC, splice, ne_eq, Nat.reduceEqDiff, Nat.reduceAdd, Nat.reduceMul, Nat.reduceLeDiff, Int.reduceToNat]
  exact wkH_ext hx ⟨rfl, rfl⟩

theorem c_lawSentText {w0 : World} {m : Frag} {a : Value} {at_ tx : Int} {l : List ChM} (ht : TabOk w0) (ha : slT w0 m 10 a (l.map chC)) (hs : ∀ r ∈ l, r.fit) : ACall Tryd.prog w0 n_laws_FnExactSentText #[.agg #[.int .i64 at_, .int .i64 tx, a]] m fun v m' => v = .bool true ∧ m' = m := by
  refine acall_x mo x_laws_FnExactSentText (by rw [p_laws_FnExactSentText]; exact Nat.le_of_ble_eq_true rfl) ?_
  unfold r_laws_FnExactSentText
  simp -dsimp (disch := first | omega | (simp only [bys_size, ByteArray.size_append, List.length_cons, List.length_nil] ; omega)) only [xrun, ↓xpre, ↓reduceIte, xval, xops, xlib, boolV, nilV, nilN, oneC, splice, ne_eq, Nat.reduceEqDiff, Nat.reduceAdd, Nat.reduceMul, Nat.reduceLeDiff, Int.reduceToNat]
  intro b0 hB0 hb0
  have x0 := Ext.set (.cells [.int .i64 at_, .int .i64 tx, a] 3 t_laws_Sent) hb0
  simp -dsimp (disch := first | omega | (simp only [bys_size, ByteArray.size_append, List.length_cons, List.length_nil] ; omega)) only [xrun, ↓xpre, ↓reduceIte, xval, xops, xlib, boolV, nilV, nilN, oneC, splice, ne_eq, Nat.reduceEqDiff, Nat.reduceAdd, Nat.reduceMul, Nat.reduceLeDiff, Int.reduceToNat]
  refine callH_of (c_szSent (slT_ext x0 ha) hs (by omega)) ?_
  rintro v m' ⟨rfl, rfl⟩
  simp -dsimp (disch := first | omega | (simp only [bys_size, ByteArray.size_append, List.length_cons, List.length_nil] ; omega)) only [xrun, ↓xpre, ↓reduceIte, xval, xops, xlib, boolV, nilV, nilN, oneC, splice, ne_eq, Nat.reduceEqDiff, Nat.reduceAdd, Nat.reduceMul, Nat.reduceLeDiff, Int.reduceToNat]
  refine condH_of (fun h => ?_) (fun h => ?_)
  · simp -dsimp (disch := first | omega | (simp only [bys_size, ByteArray.size_append, List.length_cons, List.length_nil] ; omega)) only [xrun, ↓xpre, ↓reduceIte, xval, xops, xlib, boolV, nilV, nilN, oneC, splice, ne_eq, Nat.reduceEqDiff, Nat.reduceAdd, Nat.reduceMul, Nat.reduceLeDiff, Int.reduceToNat]
    exact wkH_ext x0 ⟨rfl, rfl⟩
  · have hsz : 0 ≤ szChs l 1048576 := by
      refine Int.not_lt.1 fun h' => h ?_
      rw [if_pos h']; omega
    have hlen : (l.length : Int) ≤ 1048576 := by
      refine Int.not_lt.1 fun h' => ?_
      unfold szChs at hsz; rw [if_pos h'] at hsz; omega
    have hs2 : ∀ r ∈ l, r.small := by
      have h1 : szChs l 1048576 = szCL l (1048576 - l.length) := by unfold szChs; rw [if_neg (by omega)]
      rw [h1] at hsz
      intro r hr
      have := (szCL_le hsz).2 r hr
      exact ⟨by omega, by omega⟩
    simp -dsimp (disch := first | omega | (simp only [bys_size, ByteArray.size_append, List.length_cons, List.length_nil] ; omega)) only [xrun, ↓xpre, ↓reduceIte, xval, xops, xlib, boolV, nilV, nilN, oneC, splice, ne_eq, Nat.reduceEqDiff, Nat.reduceAdd, Nat.reduceMul, Nat.reduceLeDiff, Int.reduceToNat]
    refine callH_of (c_toSent (slT_ext x0 ha) (by omega)) ?_
    rintro v1 m1 ⟨x1, b1, rfl, s1⟩
    simp -dsimp (disch := first | omega | (simp only [bys_size, ByteArray.size_append, List.length_cons, List.length_nil] ; omega)) only [xrun, ↓xpre, ↓reduceIte, xval, xops, xlib, boolV, nilV, nilN, oneC, splice, ne_eq, Nat.reduceEqDiff, Nat.reduceAdd, Nat.reduceMul, Nat.reduceLeDiff, Int.reduceToNat]
    refine callH_of (c_specSentText s1 hs2) ?_
    rintro v m' ⟨rfl, rfl⟩
    obtain ⟨c, s, hv⟩ : ∃ c s, sentV at_ tx l = .agg #[.int .i64 c, .string s] := by unfold sentV; split <;> exact ⟨_, _, rfl⟩
    rw [hv]
    simp -dsimp (disch := first | omega | (simp only [bys_size, ByteArray.size_append, List.length_cons, List.length_nil] ; omega)) only [xrun, ↓xpre, ↓reduceIte, xval, xops, xlib, boolV, nilV, nilN, oneC, splice, ne_eq, Nat.reduceEqDiff, Nat.reduceAdd, Nat.reduceMul, Nat.reduceLeDiff, Int.reduceToNat]
    intro q1 hQ1 hq1
    have k0 := x1 b0 _ (Frag.set_same _ _ _)
    have n01 : b0 ≠ q1 := Ne.symm (new_ne k0 hq1)
    have x2 := x1.trans (Ext.set (.cells [.int .i64 c, .string s] 2 t_impl_TextResult) hq1)
    have r0 := row_own hB0 (x2 _ _ (Frag.set_same _ _ _))
    simp -dsimp (disch := first | omega | (simp only [bys_size, ByteArray.size_append, List.length_cons, List.length_nil] ; omega)) only [xrun, ↓xpre, ↓reduceIte, xval, xops, xlib, boolV, nilV, nilN, oneC, splice, ne_eq, Nat.reduceEqDiff, Nat.reduceAdd, Nat.reduceMul, Nat.reduceLeDiff, Int.reduceToNat, r0]
    refine callH_of (c_toSent (slT_ext (x0.trans x2) ha) (by omega)) ?_
    rintro v2 m2 ⟨x3, b2, rfl, s2⟩
    obtain ⟨b2a, c2a, hb2⟩ := slT_sl s2
    simp only [List.length_map] at hb2
    subst hb2
    simp -dsimp (disch := first | omega | (simp only [bys_size, ByteArray.size_append, List.length_cons, List.length_nil] ; omega)) only [xrun, ↓xpre, ↓reduceIte, xval, xops, xlib, boolV, nilV, nilN, oneC, splice, ne_eq, Nat.reduceEqDiff, Nat.reduceAdd, Nat.reduceMul, Nat.reduceLeDiff, Int.reduceToNat]
    intro q2 hQ2 hq2
    have k1 := x3 q1 _ (Frag.set_same _ _ _)
    have n12 : q1 ≠ q2 := Ne.symm (new_ne k1 hq2)
    have x4 := x3.trans (Ext.set (.cells [.int .i64 at_, .int .i64 tx, .slice b2a l.length c2a] 3 t_impl_Sent) hq2)
    simp -dsimp (disch := first | omega | (simp only [bys_size, ByteArray.size_append, List.length_cons, List.length_nil] ; omega)) only [xrun, ↓xpre, ↓reduceIte, xval, xops, xlib, boolV, nilV, nilN, oneC, splice, ne_eq, Nat.reduceEqDiff, Nat.reduceAdd, Nat.reduceMul, Nat.reduceLeDiff, Int.reduceToNat]
    refine callH_of (c_implSentText ht (slT_ext (Ext.set _ hq2) s2) hs2) ?_
    rintro v m' ⟨rfl, rfl⟩
    rw [hv]
    simp -dsimp (disch := first | omega | (simp only [bys_size, ByteArray.size_append, List.length_cons, List.length_nil] ; omega)) only [xrun, ↓xpre, ↓reduceIte, xval, xops, xlib, boolV, nilV, nilN, oneC, splice, ne_eq, Nat.reduceEqDiff, Nat.reduceAdd, Nat.reduceMul, Nat.reduceLeDiff, Int.reduceToNat]
    intro q3 hQ3 hq3
    obtain ⟨n23, hq3'⟩ := set_none hq3
    have n23' := Ne.symm n23
    have x5 := x4.trans (Ext.set (.cells [.int .i64 c, .string s] 2 t_impl_TextResult) hq3)
    have r1 := row_own hQ1 (x5 _ _ (Frag.set_same _ _ _))
    simp -dsimp (disch := first | omega | (simp only [bys_size, ByteArray.size_append, List.length_cons, List.length_nil] ; omega)) only [xrun, ↓xpre, ↓reduceIte, xval, xops, xlib, boolV, nilV, nilN, oneC, splice, ne_eq, Nat.reduceEqDiff, Nat.reduceAdd, Nat.reduceMul, Nat.reduceLeDiff, Int.reduceToNat, r1, n23, n23']
    refine callH_of c_eqTextResult ?_
    rintro v m' ⟨rfl, rfl⟩
    have r00 := row_own hB0 ((x2.trans x5) _ _ (Frag.set_same _ _ _))
    simp -dsimp (disch := first | omega | (simp only [bys_size, ByteArray.size_append, List.length_cons, List.length_nil] ; omega)) only [xrun, ↓xpre, ↓reduceIte, xval, xops, xlib, boolV, nilV, nilN, oneC, splice, ne_eq, Nat.reduceEqDiff, Nat.reduceAdd, Nat.reduceMul, Nat.reduceLeDiff, Int.reduceToNat, n23, n23', r00]
    refine callH_of (c_toSent (slT_ext (x0.trans (x2.trans x5)) ha) (by omega)) ?_
    rintro v3 m3 ⟨x6, b3, rfl, s3⟩
    simp -dsimp (disch := first | omega | (simp only [bys_size, ByteArray.size_append, List.length_cons, List.length_nil] ; omega)) only [xrun, ↓xpre, ↓reduceIte, xval, xops, xlib, boolV, nilV, nilN, oneC, splice, ne_eq, Nat.reduceEqDiff, Nat.reduceAdd, Nat.reduceMul, Nat.reduceLeDiff, Int.reduceToNat, x6]
    refine callH_of (c_eqSent (slT_ext (((Ext.set _ hq2).trans (Ext.set _ hq3)).trans x6) s2) s3) ?_
    rintro v m' ⟨rfl, rfl⟩
    simp -dsimp (disch := first | omega | (simp only [bys_size, ByteArray.size_append, List.length_cons, List.length_nil] ; omega)) only [xrun, ↓xpre, ↓reduceIte, xval, xops, xlib, boolV, nilV, nilN, oneC, splice, ne_eq, Nat.reduceEqDiff, Nat.reduceAdd, Nat.reduceMul, Nat.reduceLeDiff, Int.reduceToNat]
    exact wkH_ext (x0.trans (x2.trans (x5.trans x6))) ⟨rfl, rfl⟩

theorem u_bool : Tryd.prog.underlying t_bool = some .bool := by kernel_rfl
theorem so_Row' : structOf Tryd.prog t_laws_Change = some [(0, 1, t_bool), (1, 4, t_laws_Row), (5, 1, t_bool), (6, 4, t_laws_Row)] := by kernel_rfl
theorem co_Change : Tryd.prog.cellsOf t_laws_Change = 10 := by kernel_rfl
theorem so_Sent : structOf Tryd.prog t_laws_Sent = some [(0, 1, t_int64), (1, 1, t_int64), (2, 1, t_sl_laws_Change)] := by kernel_rfl
theorem co_Sent : Tryd.prog.cellsOf t_laws_Sent = 3 := by kernel_rfl

theorem open_change {H : Type} {enc : TypeId × Value → H} {W : World} {base : Nat} {sp : Nat → Bool} {held : Bool} {fuel : Nat} {c : List Value} {y : DataW H × List MemPlace} (h : DataW.trod enc Tryd.prog W base sp held fuel t_laws_Change c = some y) : ∃ r : ChM, r.fit ∧ chC r = c := by
  obtain ⟨hl, hf⟩ := open_struct so_Row' h
  rw [co_Change] at hl
  obtain ⟨_, _, h0⟩ := hf 0 _ rfl
  obtain ⟨_, _, h1⟩ := hf 1 _ rfl
  obtain ⟨_, _, h2⟩ := hf 2 _ rfl
  obtain ⟨_, _, h3⟩ := hf 3 _ rfl
  obtain ⟨b0, e0, _⟩ := DataW.trod_bool u_bool h0
  obtain ⟨r1, f1, e1⟩ := open_row h1
  obtain ⟨b2, e2, _⟩ := DataW.trod_bool u_bool h2
  obtain ⟨r3, f3, e3⟩ := open_row h3
  refine ⟨⟨b0, r1, b2, r3⟩, ⟨f1.1, f3.1⟩, ?_⟩
  match c, hl with
  | [a0, a1, a2, a3, a4, a5, a6, a7, a8, a9], _ =>
    simp only [List.drop_succ_cons, List.drop_zero, List.take_succ_cons, List.take_zero, List.cons.injEq, and_true, rowC] at e0 e1 e2 e3
    obtain ⟨rfl, rfl, rfl, rfl⟩ := e1
    obtain ⟨rfl, rfl, rfl, rfl⟩ := e3
    rw [e0, e2]; rfl

theorem open_changes {H : Type} {enc : TypeId × Value → H} {W : World} {sp : Nat → Bool} {held : Bool} {fuel t : TypeId} {v : Value} {x : DataW H × List MemPlace} (ht : Tryd.prog.underlying t = some (.slice t_laws_Change)) (h : DataW.trod enc Tryd.prog W 0 sp held fuel t [v] = some x) :
    ∃ l : List ChM, slT W Frag.none 10 v (l.map chC) ∧ ∀ r ∈ l, r.fit := by
  obtain ⟨el, hs, he⟩ := open_sl (es := 10) ht co_Change (by decide) h
  obtain ⟨k, rfl, hk⟩ := map_of_all (f := chC) (p := ChM.fit) fun c hc => by
    obtain ⟨n, y, hy⟩ := he c hc
    exact open_change hy
  exact ⟨k, hs, hk⟩

theorem open_sent {H : Type} {enc : TypeId × Value → H} {W : World} {sp : Nat → Bool} {held : Bool} {fuel : Nat} {c : List Value} {x : DataW H × List MemPlace} (h : DataW.trod enc Tryd.prog W 0 sp held fuel t_laws_Sent c = some x) :
    ∃ (at_ tx : Int) (v : Value) (l : List ChM), c = [.int .i64 at_, .int .i64 tx, v] ∧ slT W Frag.none 10 v (l.map chC) ∧ ∀ r ∈ l, r.fit := by
  obtain ⟨hl, hf⟩ := open_struct so_Sent h
  rw [co_Sent] at hl
  obtain ⟨_, _, h0⟩ := hf 0 _ rfl
  obtain ⟨_, _, h1⟩ := hf 1 _ rfl
  obtain ⟨_, _, h2⟩ := hf 2 _ rfl
  obtain ⟨n0, e0, _, w0⟩ := DataW.trod_int u_int64 h0
  obtain ⟨n1, e1, _, w1⟩ := DataW.trod_int u_int64 h1
  match c, hl with
  | [a0, a1, a2], _ =>
    simp only [List.drop_succ_cons, List.drop_zero, List.take_succ_cons, List.take_zero, List.cons.injEq, and_true] at e0 e1 h2
    obtain ⟨l, hs, hk⟩ := open_changes (by kernel_rfl) h2
    exact ⟨n0, n1, a2, l, by rw [e0, e1], hs, hk⟩

end Go.Proofs.YtemaflbbcihilaaDoor.Fl
