/- Lists of changes, told by contract. No conditions. -/
import Derived.Test.YtemaflbbcihilaaDoorV7
namespace Go.Proofs.YtemaflbbcihilaaDoor.Fl
open Go Go.RowKit
set_option linter.unusedSimpArgs false
set_option linter.unusedVariables false

/-- What is wrong with changes, from one on; prev: the one ahead. -/
def chsL (prev : Option ChM) : List ChM → Int
  | [] => 0
  | r :: l => if oneF r ≠ 0 then oneF r else if (prev.any fun p => !chB p r) then 1 else chsL (some r) l

def chsFt (l : List ChM) : Int := if l.length > 60 then 2 else chsL Option.none l

def prevC (l : List ChM) (i : Nat) : Option ChM := if i = 0 then Option.none else l[i - 1]?

theorem prevC_succ {l : List ChM} {i : Nat} (h : i < l.length) : prevC l (i + 1) = some l[i] := by
  unfold prevC; rw [if_neg (by omega), Nat.add_sub_cancel, List.getElem?_eq_getElem h]

theorem chsFt_len {l : List ChM} (h : chsFt l = 0) : l.length ≤ 60 := by
  unfold chsFt at h
  split at h
  · cases h
  · omega

theorem chsFt_ok {l : List ChM} (h : chsFt l = 0) : ∀ r ∈ l, oneF r = 0 := by
  have go : ∀ (l : List ChM) (p : Option ChM), chsL p l = 0 → ∀ r ∈ l, oneF r = 0 := by
    intro l
    induction l with
    | nil => intro p _ r hr; cases hr
    | cons x l ih =>
      intro p h r hr
      unfold chsL at h
      split at h
      · rename_i hne; exact absurd h hne
      · rename_i hz
        split at h
        · cases h
        · rcases List.mem_cons.1 hr with rfl | hr
          · exact Classical.not_not.1 hz
          · exact ih _ h r hr
  unfold chsFt at h
  split at h
  · cases h
  · exact go l _ h

theorem c_l9List {w0 : World} {m : Frag} {a : Value} {l : List ChM} (ha : slT w0 m 10 a (l.map chC)) (hs : ∀ r ∈ l, r.small) : ACall Tryd.prog w0 n_spec_l9List #[a] m fun v m' => v = .int .i64 (chsFt l) ∧ m' = m := by
  refine acall_x mo x_spec_l9List (by rw [p_spec_l9List]; exact Nat.le_of_ble_eq_true rfl) ?_
  have hle := slT_le ha
  simp only [List.length_map] at hle
  obtain ⟨ba, ca, rfl⟩ := slT_sl ha
  unfold r_spec_l9List
  simp -dsimp (disch := first | omega | (simp only [bys_size, ByteArray.size_append, List.length_cons, List.length_nil] ; omega)) only [xrun, ↓xpre, ↓reduceIte, xval, xops, xlib, boolV, nilV, nilN, oneC, splice, ne_eq, Nat.reduceEqDiff, Nat.reduceAdd, Nat.reduceMul, Nat.reduceLeDiff, Int.reduceToNat]
  refine condH_of (fun h => ?_) (fun h => ?_)
  · simp -dsimp (disch := first | omega | (simp only [bys_size, ByteArray.size_append, List.length_cons, List.length_nil] ; omega)) only [xrun, ↓xpre, ↓reduceIte, xval, xops, xlib, boolV, nilV, nilN, oneC, splice, ne_eq, Nat.reduceEqDiff, Nat.reduceAdd, Nat.reduceMul, Nat.reduceLeDiff, Int.reduceToNat]
    exact wkH_self ⟨by unfold chsFt; rw [if_pos (by omega)], rfl⟩
  · simp -dsimp (disch := first | omega | (simp only [bys_size, ByteArray.size_append, List.length_cons, List.length_nil] ; omega)) only [xrun, ↓xpre, ↓reduceIte, xval, xops, xlib, boolV, nilV, nilN, oneC, splice, ne_eq, Nat.reduceEqDiff, Nat.reduceAdd, Nat.reduceMul, Nat.reduceLeDiff, Int.reduceToNat]
    have hft : chsFt l = chsL Option.none l := by unfold chsFt; rw [if_neg (by omega)]
    refine loopH_of (fun k t m' => m' = m ∧ ∃ i : Nat, i ≤ l.length ∧ k = l.length - i ∧ t 0 = .slice ba l.length ca ∧ t 3 = .int .i64 i ∧ chsL (prevC l i) (l.drop i) = chsFt l) l.length ⟨rfl, 0, by omega, rfl, rfl, rfl, by rw [hft]; rfl⟩ ?_
    rintro k t _ ⟨rfl, i, hi, rfl, h0, h3, hp⟩
    simp -dsimp (disch := first | omega | (simp only [bys_size, ByteArray.size_append, List.length_cons, List.length_nil] ; omega)) only [xrun, ↓xpre, ↓reduceIte, xval, xops, xlib, boolV, nilV, nilN, oneC, splice, ne_eq, Nat.reduceEqDiff, Nat.reduceAdd, Nat.reduceMul, Nat.reduceLeDiff, Int.reduceToNat, h0, h3]
    refine condH_of (fun hlt => ?_) (fun hge => ?_)
    · have hlt' : i < l.length := by omega
      have hi' : i < (l.map chC).length := by rw [List.length_map]; exact hlt'
      obtain ⟨blk, o, rfl, hpt⟩ := slT_ptr ha hi'
      rw [List.getElem_map] at hpt
      rw [List.drop_eq_getElem_cons hlt'] at hp
      simp -dsimp (disch := first | omega | (simp only [bys_size, ByteArray.size_append, List.length_cons, List.length_nil] ; omega)) only [xrun, ↓xpre, ↓reduceIte, xval, xops, xlib, boolV, nilV, nilN, oneC, splice, ne_eq, Nat.reduceEqDiff, Nat.reduceAdd, Nat.reduceMul, Nat.reduceLeDiff, Int.reduceToNat, h0, h3]
      refine callH_of (c_l9Change hpt (hs _ (List.getElem_mem hlt'))) ?_
      rintro v m' ⟨rfl, rfl⟩
      simp -dsimp (disch := first | omega | (simp only [bys_size, ByteArray.size_append, List.length_cons, List.length_nil] ; omega)) only [xrun, ↓xpre, ↓reduceIte, xval, xops, xlib, boolV, nilV, nilN, oneC, splice, ne_eq, Nat.reduceEqDiff, Nat.reduceAdd, Nat.reduceMul, Nat.reduceLeDiff, Int.reduceToNat, h0, h3]
      refine condH_of (fun hne => ?_) (fun heq => ?_)
      · simp -dsimp (disch := first | omega | (simp only [bys_size, ByteArray.size_append, List.length_cons, List.length_nil] ; omega)) only [xrun, ↓xpre, ↓reduceIte, xval, xops, xlib, boolV, nilV, nilN, oneC, splice, ne_eq, Nat.reduceEqDiff, Nat.reduceAdd, Nat.reduceMul, Nat.reduceLeDiff, Int.reduceToNat]
        refine wkH_self ⟨?_, rfl⟩
        rw [← hp, chsL, if_pos hne]
      · have hz : oneF l[i] = 0 := by omega
        rw [chsL, if_neg (by rw [hz]; simp)] at hp
        simp -dsimp (disch := first | omega | (simp only [bys_size, ByteArray.size_append, List.length_cons, List.length_nil] ; omega)) only [xrun, ↓xpre, ↓reduceIte, xval, xops, xlib, boolV, nilV, nilN, oneC, splice, ne_eq, Nat.reduceEqDiff, Nat.reduceAdd, Nat.reduceMul, Nat.reduceLeDiff, Int.reduceToNat, h0, h3]
        have next : ∀ t', t' 0 = .slice (some ⟨blk, o, Option.none⟩) l.length ca → t' 3 = .int .i64 ((i : Int) + 1) → (prevC l i).any (fun p => !chB p l[i]) = false → nextI (fun k t m'' => m'' = m' ∧ ∃ i : Nat, i ≤ l.length ∧ k = l.length - i ∧ t 0 = .slice (some ⟨blk, o, Option.none⟩) l.length ca ∧ t 3 = .int .i64 i ∧ chsL (prevC l i) (l.drop i) = chsFt l) (l.length - i) t' m' := by
          intro t' g0 g3 hf
          rw [hf] at hp
          exact nextI_of (l.length - (i + 1)) (by omega) ⟨rfl, i + 1, by omega, rfl, g0, g3, by rw [prevC_succ hlt']; exact hp⟩
        refine gdH_b (fun hg => ?_) (fun hg => ?_)
        · have hg0 : 0 < i := by simpa using hg
          have hi2 : i - 1 < (l.map chC).length := by rw [List.length_map]; omega
          obtain ⟨blk', o', hb', hpt'⟩ := slT_ptr ha hi2
          cases hb'
          rw [List.getElem_map] at hpt'
          have hcast : (((i : Int) - 1).toNat) = i - 1 := by omega
          simp -dsimp (disch := first | omega | (simp only [bys_size, ByteArray.size_append, List.length_cons, List.length_nil] ; omega)) only [xrun, ↓xpre, ↓reduceIte, xval, xops, xlib, boolV, nilV, nilN, oneC, splice, ne_eq, Nat.reduceEqDiff, Nat.reduceAdd, Nat.reduceMul, Nat.reduceLeDiff, Int.reduceToNat, h0, h3, hg, hcast]
          refine callH_of (c_l9Ahead hpt' hpt) ?_
          rintro v m'' ⟨rfl, rfl⟩
          simp -dsimp (disch := first | omega | (simp only [bys_size, ByteArray.size_append, List.length_cons, List.length_nil] ; omega)) only [xrun, ↓xpre, ↓reduceIte, xval, xops, xlib, boolV, nilV, nilN, oneC, splice, ne_eq, Nat.reduceEqDiff, Nat.reduceAdd, Nat.reduceMul, Nat.reduceLeDiff, Int.reduceToNat, h0, h3, hg]
          have hpv : prevC l i = some l[i - 1] := by
            unfold prevC; rw [if_neg (by omega), List.getElem?_eq_getElem (by omega)]
          cases hb : chB l[i - 1] l[i] with
          | false =>
            simp -dsimp (disch := first | omega | (simp only [bys_size, ByteArray.size_append, List.length_cons, List.length_nil] ; omega)) only [xrun, ↓xpre, ↓reduceIte, xval, xops, xlib, boolV, nilV, nilN, oneC, splice, ne_eq, Nat.reduceEqDiff, Nat.reduceAdd, Nat.reduceMul, Nat.reduceLeDiff, Int.reduceToNat]
            refine wkH_self ⟨?_, rfl⟩
            rw [← hp, hpv]; simp [hb]
          | true =>
            simp -dsimp (disch := first | omega | (simp only [bys_size, ByteArray.size_append, List.length_cons, List.length_nil] ; omega)) only [xrun, ↓xpre, ↓reduceIte, xval, xops, xlib, boolV, nilV, nilN, oneC, splice, ne_eq, Nat.reduceEqDiff, Nat.reduceAdd, Nat.reduceMul, Nat.reduceLeDiff, Int.reduceToNat, h0, h3]
            exact next _ h0 rfl (by rw [hpv]; simp [hb])
        · have hg0 : i = 0 := by simp at hg; omega
          simp -dsimp (disch := first | omega | (simp only [bys_size, ByteArray.size_append, List.length_cons, List.length_nil] ; omega)) only [xrun, ↓xpre, ↓reduceIte, xval, xops, xlib, boolV, nilV, nilN, oneC, splice, ne_eq, Nat.reduceEqDiff, Nat.reduceAdd, Nat.reduceMul, Nat.reduceLeDiff, Int.reduceToNat, h0, h3, hg]
          refine next _ h0 rfl ?_
          subst hg0; rfl
    · have : i = l.length := by omega
      subst this
      rw [List.drop_length] at hp
      simp -dsimp (disch := first | omega | (simp only [bys_size, ByteArray.size_append, List.length_cons, List.length_nil] ; omega)) only [xrun, ↓xpre, ↓reduceIte, xval, xops, xlib, boolV, nilV, nilN, oneC, splice, ne_eq, Nat.reduceEqDiff, Nat.reduceAdd, Nat.reduceMul, Nat.reduceLeDiff, Int.reduceToNat, h0, h3]
      exact wkH_self ⟨by rw [← hp]; rfl, rfl⟩

theorem slT_ch {w0 : World} {m : Frag} {blk o cap : Nat} {l : List ChM} (h : slT w0 m 10 (.slice (some ⟨blk, o, Option.none⟩) l.length cap) (l.map chC)) {i : Nat} (hi : i < l.length) :
    ∃ cs, row w0 m blk = some cs ∧ o + l.length * 10 ≤ cs.length ∧ (cs.drop (o + i * 10)).take 10 = chC l[i] := by
  obtain ⟨b, o', cs, hb, hr, hl, hle, hat⟩ := slT_at h (i := i) (by rw [List.length_map]; exact hi)
  cases hb
  have e1 := hat 0 10 (by omega)
  simp only [List.getElem_map, List.drop_zero, Nat.add_zero, List.length_map] at e1 hl
  rw [List.take_of_length_le (show (chC l[i]).length ≤ 10 from Nat.le_refl 10)] at e1
  exact ⟨cs, hr, hl, e1⟩

theorem c_foldedFault {w0 : World} {m : Frag} {a : Value} {l : List ChM} (ha : slT w0 m 10 a (l.map chC)) (hs : ∀ r ∈ l, r.small) : ACall Tryd.prog w0 n_impl_foldedFault #[a] m fun v m' => v = .int .i64 (chsFt l) ∧ m' = m := by
  refine acall_x mo x_impl_foldedFault (by rw [p_impl_foldedFault]; exact Nat.le_of_ble_eq_true rfl) ?_
  have hle := slT_le ha
  simp only [List.length_map] at hle
  obtain ⟨ba, ca, rfl⟩ := slT_sl ha
  simp only [List.length_map] at ha
  unfold r_impl_foldedFault
  simp -dsimp (disch := first | omega | (simp only [bys_size, ByteArray.size_append, List.length_cons, List.length_nil] ; omega)) only [xrun, ↓xpre, ↓reduceIte, xval, xops, xlib, boolV, nilV, nilN, oneC, splice, ne_eq, Nat.reduceEqDiff, Nat.reduceAdd, Nat.reduceMul, Nat.reduceLeDiff, Int.reduceToNat]
  refine condH_of (fun h => ?_) (fun h => ?_)
  · simp -dsimp (disch := first | omega | (simp only [bys_size, ByteArray.size_append, List.length_cons, List.length_nil] ; omega)) only [xrun, ↓xpre, ↓reduceIte, xval, xops, xlib, boolV, nilV, nilN, oneC, splice, ne_eq, Nat.reduceEqDiff, Nat.reduceAdd, Nat.reduceMul, Nat.reduceLeDiff, Int.reduceToNat]
    exact wkH_self ⟨by unfold chsFt; rw [if_pos (by omega)], rfl⟩
  · simp -dsimp (disch := first | omega | (simp only [bys_size, ByteArray.size_append, List.length_cons, List.length_nil] ; omega)) only [xrun, ↓xpre, ↓reduceIte, xval, xops, xlib, boolV, nilV, nilN, oneC, splice, ne_eq, Nat.reduceEqDiff, Nat.reduceAdd, Nat.reduceMul, Nat.reduceLeDiff, Int.reduceToNat]
    have hft : chsFt l = chsL Option.none l := by unfold chsFt; rw [if_neg (by omega)]
    refine loopH_of (fun k t m' => Ext m m' ∧ ∃ i : Nat, i ≤ l.length ∧ k = l.length - i ∧ t 0 = .slice ba l.length ca ∧ t 9 = .slice ba l.length ca ∧ t 10 = .int .i64 l.length ∧ t 11 = .int .i64 i ∧ chsL (prevC l i) (l.drop i) = chsFt l) l.length ⟨Ext.refl _, 0, by omega, rfl, rfl, rfl, rfl, rfl, by rw [hft]; rfl⟩ ?_
    rintro k t m1 ⟨hx, i, hi, rfl, h0, h9, h10, h11, hp⟩
    simp -dsimp (disch := first | omega | (simp only [bys_size, ByteArray.size_append, List.length_cons, List.length_nil] ; omega)) only [xrun, ↓xpre, ↓reduceIte, xval, xops, xlib, boolV, nilV, nilN, oneC, splice, ne_eq, Nat.reduceEqDiff, Nat.reduceAdd, Nat.reduceMul, Nat.reduceLeDiff, Int.reduceToNat, h0, h9, h10, h11]
    refine condH_of (fun hlt => ?_) (fun hge => ?_)
    · have hlt' : i < l.length := by omega
      obtain ⟨blk, o, rfl⟩ := slT_some ha (i := i) (by rw [List.length_map]; exact hlt')
      obtain ⟨cs, hr, hl1, e1⟩ := slT_ch (slT_ext hx ha) hlt'
      rw [List.drop_eq_getElem_cons hlt'] at hp
      have hb4 : i * 10 + 10 ≤ l.length * 10 := by omega
      have g1 : (chC l[i]).length = 10 := rfl
      have g2 : (chC l[i]).all oneC = true := rfl
      have g3 : (chC l[i]).drop 10 = [] := rfl
      have g4 : (chC l[i]).take 10 = chC l[i] := rfl
      simp -dsimp (disch := first | omega | (simp only [bys_size, ByteArray.size_append, List.length_cons, List.length_nil] ; omega)) only [xrun, ↓xpre, ↓reduceIte, xval, xops, xlib, boolV, nilV, nilN, oneC, splice, ne_eq, Nat.reduceEqDiff, Nat.reduceAdd, Nat.reduceMul, Nat.reduceLeDiff, Int.reduceToNat, h0, h9, h10, h11, hr, e1]
      intro q hq hqm
      have hx2 := hx.trans (Ext.set (n := q) (.cells (chC l[i]) 10 t_impl_Change) hqm)
      simp -dsimp (disch := first | omega | (simp only [bys_size, ByteArray.size_append, List.length_cons, List.length_nil] ; omega)) only [xrun, ↓xpre, ↓reduceIte, xval, xops, xlib, boolV, nilV, nilN, oneC, splice, ne_eq, Nat.reduceEqDiff, Nat.reduceAdd, Nat.reduceMul, Nat.reduceLeDiff, Int.reduceToNat, h0, h9, h10, h11, g1, g2, g3, g4]
      refine callH_of (c_singleFault (c := l[i]) (hs _ (List.getElem_mem hlt'))) ?_
      rintro v m' ⟨rfl, rfl⟩
      simp -dsimp (disch := first | omega | (simp only [bys_size, ByteArray.size_append, List.length_cons, List.length_nil] ; omega)) only [xrun, ↓xpre, ↓reduceIte, xval, xops, xlib, boolV, nilV, nilN, oneC, splice, ne_eq, Nat.reduceEqDiff, Nat.reduceAdd, Nat.reduceMul, Nat.reduceLeDiff, Int.reduceToNat, h0, h9, h10, h11]
      refine condH_of (fun hne => ?_) (fun heq => ?_)
      · simp -dsimp (disch := first | omega | (simp only [bys_size, ByteArray.size_append, List.length_cons, List.length_nil] ; omega)) only [xrun, ↓xpre, ↓reduceIte, xval, xops, xlib, boolV, nilV, nilN, oneC, splice, ne_eq, Nat.reduceEqDiff, Nat.reduceAdd, Nat.reduceMul, Nat.reduceLeDiff, Int.reduceToNat]
        refine wkH_ext hx2 ⟨?_, rfl⟩
        rw [← hp, chsL, if_pos hne]
      · have hz : oneF l[i] = 0 := by omega
        rw [chsL, if_neg (by rw [hz]; simp)] at hp
        simp -dsimp (disch := first | omega | (simp only [bys_size, ByteArray.size_append, List.length_cons, List.length_nil] ; omega)) only [xrun, ↓xpre, ↓reduceIte, xval, xops, xlib, boolV, nilV, nilN, oneC, splice, ne_eq, Nat.reduceEqDiff, Nat.reduceAdd, Nat.reduceMul, Nat.reduceLeDiff, Int.reduceToNat, h0, h9, h10, h11]
        have next : ∀ t', t' 0 = .slice (some ⟨blk, o, Option.none⟩) l.length ca → t' 9 = .slice (some ⟨blk, o, Option.none⟩) l.length ca → t' 10 = .int .i64 l.length → t' 11 = .int .i64 ((i : Int) + 1) → (prevC l i).any (fun p => !chB p l[i]) = false → nextI (fun k t m'' => Ext m m'' ∧ ∃ i : Nat, i ≤ l.length ∧ k = l.length - i ∧ t 0 = .slice (some ⟨blk, o, Option.none⟩) l.length ca ∧ t 9 = .slice (some ⟨blk, o, Option.none⟩) l.length ca ∧ t 10 = .int .i64 l.length ∧ t 11 = .int .i64 i ∧ chsL (prevC l i) (l.drop i) = chsFt l) (l.length - i) t' (m1.set q (.cells (chC l[i]) 10 t_impl_Change)) := by
          intro t' g0 g9 g10 g11 hf
          rw [hf] at hp
          exact nextI_of (l.length - (i + 1)) (by omega) ⟨hx2, i + 1, by omega, rfl, g0, g9, g10, g11, by rw [prevC_succ hlt']; exact hp⟩
        refine gdH_b (fun hg => ?_) (fun hg => ?_)
        · have hg0 : 0 < i := by simpa using hg
          have hi2 : i - 1 < l.length := by omega
          obtain ⟨cs', hr', hl1', e2⟩ := slT_ch (slT_ext hx2 ha) hi2
          have hcast : (((i : Int) - 1).toNat) = i - 1 := by omega
          have hb5 : (i - 1) * 10 + 10 ≤ l.length * 10 := by omega
          simp -dsimp (disch := first | omega | (simp only [bys_size, ByteArray.size_append, List.length_cons, List.length_nil] ; omega)) only [xrun, ↓xpre, ↓reduceIte, xval, xops, xlib, boolV, nilV, nilN, oneC, splice, ne_eq, Nat.reduceEqDiff, Nat.reduceAdd, Nat.reduceMul, Nat.reduceLeDiff, Int.reduceToNat, h0, h9, h10, h11, hg, hcast, hr', e2, g1, g4]
          refine callH_of (c_key (c := l[i - 1])) ?_
          rintro v m'' ⟨rfl, rfl⟩
          simp -dsimp (disch := first | omega | (simp only [bys_size, ByteArray.size_append, List.length_cons, List.length_nil] ; omega)) only [xrun, ↓xpre, ↓reduceIte, xval, xops, xlib, boolV, nilV, nilN, oneC, splice, ne_eq, Nat.reduceEqDiff, Nat.reduceAdd, Nat.reduceMul, Nat.reduceLeDiff, Int.reduceToNat, h0, h9, h10, h11, hg]
          refine callH_of (c_key (c := l[i])) ?_
          rintro v m'' ⟨rfl, rfl⟩
          simp -dsimp (disch := first | omega | (simp only [bys_size, ByteArray.size_append, List.length_cons, List.length_nil] ; omega)) only [xrun, ↓xpre, ↓reduceIte, xval, xops, xlib, boolV, nilV, nilN, oneC, splice, ne_eq, Nat.reduceEqDiff, Nat.reduceAdd, Nat.reduceMul, Nat.reduceLeDiff, Int.reduceToNat, h0, h9, h10, h11, hg]
          refine callH_of (c_IsBefore (a := chKey l[i - 1]) (b := chKey l[i])) ?_
          rintro v m'' ⟨rfl, rfl⟩
          simp -dsimp (disch := first | omega | (simp only [bys_size, ByteArray.size_append, List.length_cons, List.length_nil] ; omega)) only [xrun, ↓xpre, ↓reduceIte, xval, xops, xlib, boolV, nilV, nilN, oneC, splice, ne_eq, Nat.reduceEqDiff, Nat.reduceAdd, Nat.reduceMul, Nat.reduceLeDiff, Int.reduceToNat, h0, h9, h10, h11, hg]
          have hpv : prevC l i = some l[i - 1] := by
            unfold prevC; rw [if_neg (by omega), List.getElem?_eq_getElem (by omega)]
          have hcb : rowB (chKey l[i - 1]) (chKey l[i]) = chB l[i - 1] l[i] := rfl
          rw [hcb]
          cases hb : chB l[i - 1] l[i] with
          | false =>
            simp -dsimp (disch := first | omega | (simp only [bys_size, ByteArray.size_append, List.length_cons, List.length_nil] ; omega)) only [xrun, ↓xpre, ↓reduceIte, xval, xops, xlib, boolV, nilV, nilN, oneC, splice, ne_eq, Nat.reduceEqDiff, Nat.reduceAdd, Nat.reduceMul, Nat.reduceLeDiff, Int.reduceToNat]
            refine wkH_ext hx2 ⟨?_, rfl⟩
            rw [← hp, hpv]; simp [hb]
          | true =>
            simp -dsimp (disch := first | omega | (simp only [bys_size, ByteArray.size_append, List.length_cons, List.length_nil] ; omega)) only [xrun, ↓xpre, ↓reduceIte, xval, xops, xlib, boolV, nilV, nilN, oneC, splice, ne_eq, Nat.reduceEqDiff, Nat.reduceAdd, Nat.reduceMul, Nat.reduceLeDiff, Int.reduceToNat, h0, h9, h10, h11]
            exact next _ h0 h9 h10 rfl (by rw [hpv]; simp [hb])
        · have hg0 : i = 0 := by simp at hg; omega
          simp -dsimp (disch := first | omega | (simp only [bys_size, ByteArray.size_append, List.length_cons, List.length_nil] ; omega)) only [xrun, ↓xpre, ↓reduceIte, xval, xops, xlib, boolV, nilV, nilN, oneC, splice, ne_eq, Nat.reduceEqDiff, Nat.reduceAdd, Nat.reduceMul, Nat.reduceLeDiff, Int.reduceToNat, h0, h9, h10, h11, hg]
          refine next _ h0 h9 h10 rfl ?_
          subst hg0; rfl
    · have : i = l.length := by omega
      subst this
      rw [List.drop_length] at hp
      simp -dsimp (disch := first | omega | (simp only [bys_size, ByteArray.size_append, List.length_cons, List.length_nil] ; omega)) only [xrun, ↓xpre, ↓reduceIte, xval, xops, xlib, boolV, nilV, nilN, oneC, splice, ne_eq, Nat.reduceEqDiff, Nat.reduceAdd, Nat.reduceMul, Nat.reduceLeDiff, Int.reduceToNat, h0, h9, h10, h11]
      exact wkH_ext hx ⟨by rw [← hp]; rfl, rfl⟩

/-! ### Sizes -/

/-- What is left of a bound behind a text. -/
def szR (r : RowM) (z : Int) : Int := if z < r.s.size then -1 else z - r.s.size
def szC (c : ChM) (z : Int) : Int := if szR c.b z < 0 then -1 else if szR c.a (szR c.b z) < 0 then -1 else szR c.a (szR c.b z)

/-- A change's texts are of lengths that there are. -/
def ChM.fit (c : ChM) : Prop := c.b.s.size ≤ 9223372036854775807 ∧ c.a.s.size ≤ 9223372036854775807

theorem c_szChange {w0 : World} {m : Frag} {c : ChM} {z : Int} (hs : c.fit) (hz : 0 ≤ z ∧ z ≤ 2 ^ 62) : ACall Tryd.prog w0 n_laws_szChange #[.agg (chC c).toArray, .int .i64 z] m fun v m' => v = .int .i64 (szC c z) ∧ m' = m := by
  refine acall_x mo x_laws_szChange (by rw [p_laws_szChange]; exact Nat.le_of_ble_eq_true rfl) ?_
  obtain ⟨w, b, s, a⟩ := c
  obtain ⟨hsb, hsa⟩ := hs
  simp only at hsb hsa
  unfold r_laws_szChange chC
  simp -dsimp (disch := first | omega | (simp only [bys_size, ByteArray.size_append, List.length_cons, List.length_nil] ; omega)) only [xrun, ↓xpre, ↓reduceIte, xval, xops, xlib, boolV, nilV, nilN, oneC, splice, ne_eq, Nat.reduceEqDiff, Nat.reduceAdd, Nat.reduceMul, Nat.reduceLeDiff, Int.reduceToNat]
  intro n hn hm
  have hx := Ext.set (m := m) (n := n) (.cells [.bool w, .int .i64 b.t, .int .i64 b.k, .int .i64 b.v, .string b.s, .bool s, .int .i64 a.t, .int .i64 a.k, .int .i64 a.v, .string a.s] 10 t_laws_Change) hm
  simp -dsimp (disch := first | omega | (simp only [bys_size, ByteArray.size_append, List.length_cons, List.length_nil] ; omega)) only [xrun, ↓xpre, ↓reduceIte, xval, xops, xlib, boolV, nilV, nilN, oneC, splice, ne_eq, Nat.reduceEqDiff, Nat.reduceAdd, Nat.reduceMul, Nat.reduceLeDiff, Int.reduceToNat]
  refine callH_of (c_szRow (r := b) hsb hz) ?_
  rintro v m' ⟨rfl, rfl⟩
  have e1 : (if z < (b.s.size : Int) then -1 else z - b.s.size) = szR b z := rfl
  rw [e1]
  simp -dsimp (disch := first | omega | (simp only [bys_size, ByteArray.size_append, List.length_cons, List.length_nil] ; omega)) only [xrun, ↓xpre, ↓reduceIte, xval, xops, xlib, boolV, nilV, nilN, oneC, splice, ne_eq, Nat.reduceEqDiff, Nat.reduceAdd, Nat.reduceMul, Nat.reduceLeDiff, Int.reduceToNat]
  refine condH_of (fun h => ?_) (fun h => ?_)
  · simp -dsimp (disch := first | omega | (simp only [bys_size, ByteArray.size_append, List.length_cons, List.length_nil] ; omega)) only [xrun, ↓xpre, ↓reduceIte, xval, xops, xlib, boolV, nilV, nilN, oneC, splice, ne_eq, Nat.reduceEqDiff, Nat.reduceAdd, Nat.reduceMul, Nat.reduceLeDiff, Int.reduceToNat]
    exact wkH_ext hx ⟨by unfold szC; rw [if_pos h], rfl⟩
  · have h2 : szR b z ≤ z := by unfold szR; split <;> omega
    simp -dsimp (disch := first | omega | (simp only [bys_size, ByteArray.size_append, List.length_cons, List.length_nil] ; omega)) only [xrun, ↓xpre, ↓reduceIte, xval, xops, xlib, boolV, nilV, nilN, oneC, splice, ne_eq, Nat.reduceEqDiff, Nat.reduceAdd, Nat.reduceMul, Nat.reduceLeDiff, Int.reduceToNat]
    refine callH_of (c_szRow (r := a) hsa (by omega)) ?_
    rintro v m' ⟨rfl, rfl⟩
    have e2 : (if szR b z < (a.s.size : Int) then -1 else szR b z - a.s.size) = szR a (szR b z) := rfl
    rw [e2]
    simp -dsimp (disch := first | omega | (simp only [bys_size, ByteArray.size_append, List.length_cons, List.length_nil] ; omega)) only [xrun, ↓xpre, ↓reduceIte, xval, xops, xlib, boolV, nilV, nilN, oneC, splice, ne_eq, Nat.reduceEqDiff, Nat.reduceAdd, Nat.reduceMul, Nat.reduceLeDiff, Int.reduceToNat]
    refine condH_of (fun h3 => ?_) (fun h3 => ?_)
    · simp -dsimp (disch := first | omega | (simp only [bys_size, ByteArray.size_append, List.length_cons, List.length_nil] ; omega)) only [xrun, ↓xpre, ↓reduceIte, xval, xops, xlib, boolV, nilV, nilN, oneC, splice, ne_eq, Nat.reduceEqDiff, Nat.reduceAdd, Nat.reduceMul, Nat.reduceLeDiff, Int.reduceToNat]
      exact wkH_ext hx ⟨by unfold szC; rw [if_neg h, if_pos h3], rfl⟩
    · simp -dsimp (disch := first | omega | (simp only [bys_size, ByteArray.size_append, List.length_cons, List.length_nil] ; omega)) only [xrun, ↓xpre, ↓reduceIte, xval, xops, xlib, boolV, nilV, nilN, oneC, splice, ne_eq, Nat.reduceEqDiff, Nat.reduceAdd, Nat.reduceMul, Nat.reduceLeDiff, Int.reduceToNat]
      exact wkH_ext hx ⟨by unfold szC; rw [if_neg h, if_neg h3], rfl⟩

theorem szC_le {c : ChM} {z : Int} (h : 0 ≤ szC c z) : szC c z ≤ z ∧ (c.b.s.size : Int) ≤ z ∧ (c.a.s.size : Int) ≤ z := by
  have e : ∀ (r : RowM) (y : Int), 0 ≤ szR r y → szR r y = y - r.s.size ∧ (r.s.size : Int) ≤ y := fun r y hy => by
    unfold szR at *
    split at hy
    · omega
    · rename_i h1; rw [if_neg h1]; omega
  unfold szC at *
  split at h
  · omega
  · rename_i h1
    rw [if_neg h1]
    split at h
    · omega
    · rename_i h2
      rw [if_neg h2]
      obtain ⟨e1, e2⟩ := e c.b z (by omega)
      obtain ⟨e3, e4⟩ := e c.a (szR c.b z) (by omega)
      omega

def szCL : List ChM → Int → Int
  | [], z => z
  | c :: l, z => if szC c z < 0 then -1 else szCL l (szC c z)
def szChs (l : List ChM) (z : Int) : Int := if z < l.length then -1 else szCL l (z - l.length)

theorem szCL_le : ∀ {l : List ChM} {z : Int}, 0 ≤ szCL l z → szCL l z ≤ z ∧ ∀ c ∈ l, (c.b.s.size : Int) ≤ z ∧ (c.a.s.size : Int) ≤ z
  | [], z, h => ⟨by simp [szCL], by simp⟩
  | c :: l, z, h => by
    unfold szCL at h ⊢
    split at h
    · omega
    · rename_i hlt
      rw [if_neg hlt]
      obtain ⟨h1, h2⟩ := szCL_le h
      have h3 := szC_le (Int.not_lt.1 hlt)
      refine ⟨by omega, fun x hx => ?_⟩
      rcases List.mem_cons.1 hx with rfl | hx
      · exact h3.2
      · have := h2 x hx; omega

theorem c_szChangeS {w0 : World} {m : Frag} {a : Value} {l : List ChM} {z : Int} (ha : slT w0 m 10 a (l.map chC)) (hs : ∀ r ∈ l, r.fit) (hz : 0 ≤ z ∧ z ≤ 2 ^ 61) : ACall Tryd.prog w0 n_laws_szChangeS #[a, .int .i64 z] m fun v m' => v = .int .i64 (szChs l z) ∧ m' = m := by
  refine acall_x mo x_laws_szChangeS (by rw [p_laws_szChangeS]; exact Nat.le_of_ble_eq_true rfl) ?_
  have hle := slT_le ha
  simp only [List.length_map] at hle
  obtain ⟨ba, ca, rfl⟩ := slT_sl ha
  simp only [List.length_map] at ha
  unfold r_laws_szChangeS
  simp -dsimp (disch := first | omega | (simp only [bys_size, ByteArray.size_append, List.length_cons, List.length_nil] ; omega)) only [xrun, ↓xpre, ↓reduceIte, xval, xops, xlib, boolV, nilV, nilN, oneC, splice, ne_eq, Nat.reduceEqDiff, Nat.reduceAdd, Nat.reduceMul, Nat.reduceLeDiff, Int.reduceToNat]
  refine condH_of (fun h => ?_) (fun h => ?_)
  · simp -dsimp (disch := first | omega | (simp only [bys_size, ByteArray.size_append, List.length_cons, List.length_nil] ; omega)) only [xrun, ↓xpre, ↓reduceIte, xval, xops, xlib, boolV, nilV, nilN, oneC, splice, ne_eq, Nat.reduceEqDiff, Nat.reduceAdd, Nat.reduceMul, Nat.reduceLeDiff, Int.reduceToNat]
    exact wkH_self ⟨by unfold szChs; rw [if_pos (by omega)], rfl⟩
  · simp -dsimp (disch := first | omega | (simp only [bys_size, ByteArray.size_append, List.length_cons, List.length_nil] ; omega)) only [xrun, ↓xpre, ↓reduceIte, xval, xops, xlib, boolV, nilV, nilN, oneC, splice, ne_eq, Nat.reduceEqDiff, Nat.reduceAdd, Nat.reduceMul, Nat.reduceLeDiff, Int.reduceToNat]
    have hft : szChs l z = szCL l (z - l.length) := by unfold szChs; rw [if_neg (by omega)]
    refine loopH_of (fun k t m' => m' = m ∧ ∃ (i : Nat) (y : Int), i ≤ l.length ∧ k = l.length - i ∧ t 0 = .slice ba l.length ca ∧ t 1 = .int .i64 y ∧ t 5 = .int .i64 i ∧ 0 ≤ y ∧ y ≤ z ∧ szCL (l.drop i) y = szChs l z) l.length ⟨rfl, 0, _, by omega, rfl, rfl, rfl, rfl, by omega, by omega, by rw [hft]; rfl⟩ ?_
    rintro k t _ ⟨rfl, i, y, hi, rfl, h0, h1, h5, hy0, hyz, hp⟩
    simp -dsimp (disch := first | omega | (simp only [bys_size, ByteArray.size_append, List.length_cons, List.length_nil] ; omega)) only [xrun, ↓xpre, ↓reduceIte, xval, xops, xlib, boolV, nilV, nilN, oneC, splice, ne_eq, Nat.reduceEqDiff, Nat.reduceAdd, Nat.reduceMul, Nat.reduceLeDiff, Int.reduceToNat, h0, h1, h5]
    refine condH_of (fun hlt => ?_) (fun hge => ?_)
    · have hlt' : i < l.length := by omega
      obtain ⟨blk, o, rfl⟩ := slT_some ha (i := i) (by rw [List.length_map]; exact hlt')
      obtain ⟨cs, hr, hl1, e1⟩ := slT_ch ha hlt'
      rw [List.drop_eq_getElem_cons hlt', szCL] at hp
      have hb4 : i * 10 + 10 ≤ l.length * 10 := by omega
      simp -dsimp (disch := first | omega | (simp only [bys_size, ByteArray.size_append, List.length_cons, List.length_nil] ; omega)) only [xrun, ↓xpre, ↓reduceIte, xval, xops, xlib, boolV, nilV, nilN, oneC, splice, ne_eq, Nat.reduceEqDiff, Nat.reduceAdd, Nat.reduceMul, Nat.reduceLeDiff, Int.reduceToNat, h0, h1, h5, hr, e1]
      refine callH_of (c_szChange (c := l[i]) (hs _ (List.getElem_mem hlt')) (by omega)) ?_
      rintro v m' ⟨rfl, rfl⟩
      simp -dsimp (disch := first | omega | (simp only [bys_size, ByteArray.size_append, List.length_cons, List.length_nil] ; omega)) only [xrun, ↓xpre, ↓reduceIte, xval, xops, xlib, boolV, nilV, nilN, oneC, splice, ne_eq, Nat.reduceEqDiff, Nat.reduceAdd, Nat.reduceMul, Nat.reduceLeDiff, Int.reduceToNat, h0, h1, h5]
      refine condH_of (fun hne => ?_) (fun heq => ?_)
      · rw [if_pos hne] at hp
        simp -dsimp (disch := first | omega | (simp only [bys_size, ByteArray.size_append, List.length_cons, List.length_nil] ; omega)) only [xrun, ↓xpre, ↓reduceIte, xval, xops, xlib, boolV, nilV, nilN, oneC, splice, ne_eq, Nat.reduceEqDiff, Nat.reduceAdd, Nat.reduceMul, Nat.reduceLeDiff, Int.reduceToNat]
        exact wkH_self ⟨by rw [hp], rfl⟩
      · rw [if_neg heq] at hp
        have hle2 := szC_le (Int.not_lt.1 heq)
        simp -dsimp (disch := first | omega | (simp only [bys_size, ByteArray.size_append, List.length_cons, List.length_nil] ; omega)) only [xrun, ↓xpre, ↓reduceIte, xval, xops, xlib, boolV, nilV, nilN, oneC, splice, ne_eq, Nat.reduceEqDiff, Nat.reduceAdd, Nat.reduceMul, Nat.reduceLeDiff, Int.reduceToNat, h0, h1, h5]
        exact nextI_of (l.length - (i + 1)) (by omega) ⟨rfl, i + 1, _, by omega, rfl, h0, rfl, rfl, by omega, by omega, hp⟩
    · have : i = l.length := by omega
      subst this
      rw [List.drop_length, szCL] at hp
      simp -dsimp (disch := first | omega | (simp only [bys_size, ByteArray.size_append, List.length_cons, List.length_nil] ; omega)) only [xrun, ↓xpre, ↓reduceIte, xval, xops, xlib, boolV, nilV, nilN, oneC, splice, ne_eq, Nat.reduceEqDiff, Nat.reduceAdd, Nat.reduceMul, Nat.reduceLeDiff, Int.reduceToNat, h0, h1, h5]
      exact wkH_self ⟨by rw [hp], rfl⟩

end Go.Proofs.YtemaflbbcihilaaDoor.Fl
