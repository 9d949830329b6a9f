/- Plain law: a text cut at each blank, by hand and by the library. No conditions. -/
import Derived.Test.YtemaflbbcihilaaDoorW3
namespace Go.Proofs.YtemaflbbcihilaaDoor.Fl
open Go Go.RowKit
set_option linter.unusedSimpArgs false
set_option linter.unusedVariables false

def cutL (c : UInt8) : List UInt8 → List UInt8 → List (List UInt8)
  | cur, [] => [cur]
  | cur, b :: l => if b = c then cur :: cutL c [] l else cutL c (cur ++ [b]) l

theorem cutL_cur (c : UInt8) : ∀ (l cur : List UInt8), ∃ h t, cutL c [] l = h :: t ∧ cutL c cur l = (cur ++ h) :: t
  | [], cur => ⟨[], [], rfl, by simp [cutL]⟩
  | b :: l, cur => by
    unfold cutL
    split
    · exact ⟨[], _, rfl, by simp⟩
    · obtain ⟨h, t, h1, h2⟩ := cutL_cur c l (cur ++ [b])
      obtain ⟨h', t', h1', h2'⟩ := cutL_cur c l [b]
      rw [h1] at h1'
      injection h1' with e1 e2
      subst e1 e2
      exact ⟨[b] ++ h, t, h2', by rw [h2]; simp⟩

theorem splitK_cut (c : UInt8) : ∀ l : List UInt8, Lib.splitK [c] 0 (l.count c) l = cutL c [] l
  | [] => rfl
  | b :: l => by
    by_cases h : b = c
    · subst h
      have hix : Lib.index (b :: l) [b] = 0 := by rw [Lib.index]; simp [List.isPrefixOf]
      rw [List.count_cons_self, Lib.splitK, hix]
      simp only [cutL, if_true]
      have := splitK_cut b l
      simpa using this
    · have hp : ([c] : List UInt8).isPrefixOf (b :: l) = false := by simp [List.isPrefixOf, Ne.symm h]
      have hix : Lib.index (b :: l) [c] = if Lib.index l [c] == -1 then -1 else Lib.index l [c] + 1 := by rw [Lib.index, hp]; simp
      have ih := splitK_cut c l
      rw [List.count_cons_of_ne (by simpa using h)]
      obtain ⟨hd, tl, h1, h2⟩ := cutL_cur c l [b]
      have h3 : cutL c [] (b :: l) = ([b] ++ hd) :: tl := by
        conv => lhs; unfold cutL
        rw [if_neg h]; exact h2
      rw [h3]
      rw [h1] at ih
      cases hk : l.count c with
      | zero => 
        rw [hk] at ih
        simp only [Lib.splitK] at ih ⊢
        injection ih with e1 e2
        subst e1 e2; rfl
      | succ k =>
        rw [hk] at ih
        unfold Lib.splitK at ih ⊢
        rw [hix]
        by_cases hm : Lib.index l [c] = -1
        · simp only [hm, beq_self_eq_true, if_true] at ih ⊢
          injection ih with e1 e2
          subst e1 e2; rfl
        · have hge := Lib.index_ge l [c]
          obtain ⟨j, hj⟩ : ∃ j : Nat, Lib.index l [c] = j := ⟨(Lib.index l [c]).toNat, by omega⟩
          have n1 : ((j : Int) == -1) = false := by simp <;> omega
          have n2 : (((j : Int) + 1) == -1) = false := by simp <;> omega
          simp only [hj, n1, n2, Bool.false_eq_true, if_false] at ih ⊢
          injection ih with e1 e2
          have e3 : ((j : Int) + 1).toNat = j + 1 := by omega
          rw [e3]
          subst e1 e2
          simp

theorem cutF_cut {s : ByteArray} {c : UInt8} : ∀ (n i a : Nat) (acc : List ByteArray), s.size - i = n → a ≤ i → i ≤ s.size →
    (cutF s c i a acc).map (·.data.toList) = acc.map (·.data.toList) ++ cutL c ((s.data.toList.drop a).take (i - a)) (s.data.toList.drop i) := by
  intro n
  have hsz : s.data.toList.length = s.size := by rw [Array.length_toList, ByteArray.size_data]
  have hex : ∀ (a i : Nat), (s.extract a i).data.toList = (s.data.toList.drop a).take (i - a) := fun a i => by
    rw [ByteArray.data_extract, Array.toList_extract, List.extract_eq_take_drop]
  induction n with
  | zero =>
    intro i a acc h ha hi
    have : i = s.size := by omega
    subst this
    unfold cutF
    rw [dif_pos (Nat.le_refl _), if_pos (Or.inl rfl)]
    unfold cutF
    rw [dif_neg (by omega), List.drop_of_length_le (show s.data.toList.length ≤ s.size by omega)]
    simp [cutL, hex]
  | succ n ih =>
    intro i a acc h ha hi
    have hlt : i < s.size := by omega
    have hlt' : i < s.data.toList.length := by omega
    unfold cutF
    rw [dif_pos hi]
    have hg : s[i]? = some s[i] := getElem?_pos s i hlt
    have hgd : s.data.toList[i] = s[i] := by simp [ByteArray.getElem_eq_getElem_data]
    rw [List.drop_eq_getElem_cons hlt', hgd]
    by_cases hc : s[i] = c
    · rw [if_pos (Or.inr (by rw [hg, hc])), ih (i + 1) (i + 1) _ (by omega) (by omega) (by omega)]
      simp [cutL, hc, hex]
    · rw [if_neg (by rw [hg]; rintro (h | h); omega; injection h with h; exact hc h), ih (i + 1) a acc (by omega) (by omega) (by omega)]
      congr 1
      conv => rhs; unfold cutL
      rw [if_neg hc]
      congr 1
      have : i + 1 - a = (i - a) + 1 := by omega
      rw [this, List.take_succ_eq_append_getElem (by simp; omega)]
      congr 2
      rw [List.getElem_drop]
      have : a + (i - a) = i := by omega
      simp only [this]; exact hgd

theorem data_inj {a b : List ByteArray} (h : a.map (·.data.toList) = b.map (·.data.toList)) : a = b := by
  induction a generalizing b with
  | nil => cases b with
    | nil => rfl
    | cons _ _ => cases h
  | cons x a ih => cases b with
    | nil => cases h
    | cons y b =>
      simp only [List.map_cons, List.cons.injEq] at h
      rw [ih h.2, ByteArray.ext (Array.ext' h.1)]

theorem cut_split (s : ByteArray) : cutF s 32 0 0 [] = splitF s := by
  apply data_inj
  rw [cutF_cut _ 0 0 [] rfl (Nat.le_refl _) (Nat.zero_le _)]
  unfold splitF
  rw [Lib.splitB_data]
  have h1 : (bys [32]).data.toList = [32] := rfl
  have h2 : Lib.countB s (bys [32]) = s.data.toList.count 32 := by
    show Lib.count s.data.toList (bys [32]).data.toList = _
    rw [h1, Lib.count_one]
  rw [h1, h2, splitK_cut]
  simp

theorem words_eq (s : ByteArray) : wordsF s = (splitF s).filter fun x => decide (¬ x = bys []) := by
  unfold wordsF; rw [cut_split]

theorem splitF_le (s : ByteArray) : (splitF s).length ≤ s.size + 1 := by
  rw [splitF_len]
  have := Lib.countB_le (bys [32]) (Nat.le_of_eq rfl) _ s (Nat.le_refl _)
  omega

end Go.Proofs.YtemaflbbcihilaaDoor.Fl
