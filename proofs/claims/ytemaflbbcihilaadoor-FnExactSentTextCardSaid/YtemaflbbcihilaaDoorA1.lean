/- What a row's arguments read as, in the words of the fragment logic. No conditions. -/
import Derived.Test.YtemaflbbcihilaaDoorFo
import Derived.Deep.Slices
import Derived.ChangeSame
namespace Go.Proofs.YtemaflbbcihilaaDoor.Fl
open Go Go.RowKit
set_option linter.unusedSimpArgs false
set_option linter.unusedVariables false

section
variable {H : Type} {enc : TypeId × Value → H} {P : Program} {W : World} {sp : Nat → Bool} {held : Bool}

theorem flat_get {es : Nat} {el : List (List Value)} (h : ∀ c ∈ el, c.length = es) {i j : Nat} (hi : i < el.length) (hj : j < es) : el.flatten[i * es + j]? = (el[i])[j]? := by
  have h1 := flat_at h hi
  have h2 := congrArg (fun l => l[j]?) h1
  simp only [List.getElem?_drop] at h2
  rw [h2, List.getElem?_append_left (by rw [h _ (List.getElem_mem hi)]; exact hj)]

/-- A slice that an argument reads as: its elements' cells, each read as its type says. -/
theorem open_sl {t e : TypeId} {es fuel : Nat} {v : Value} {x : DataW H × List MemPlace} (ht : P.underlying t = some (.slice e)) (hc : P.cellsOf e = es) (hes : 0 < es) (h : DataW.trod enc P W 0 sp held fuel t [v] = some x) :
    ∃ el : List (List Value), slT W Frag.none es v el ∧ ∀ c ∈ el, ∃ n y, DataW.trod enc P W 0 sp held n e c = some y := by
  rcases Deep.open_slice ht h with ⟨hv, _⟩ | ⟨a, len, cap, mm, n, D, Pl, hv, hb, hl, hm, hmm, _, hx⟩
  · cases hv
    exact ⟨[], ⟨⟨by simp, by simp⟩, Option.none, 0, rfl, Or.inl rfl⟩, by simp⟩
  · cases hv
    subst hc
    have hle : len ≤ mm := by rw [hmm]; split <;> omega
    obtain ⟨f, hf⟩ := Deep.choose_lt (α := List Value) (n := len) (p := fun i cs' => W.cells? 0 (a.add (i * P.cellsOf e)) (P.cellsOf e) = some cs' ∧ DataW.trod enc P W 0 sp held n e cs' = some (D i, Pl i)) (fun i hi => hx i (by omega))
    refine ⟨(List.range len).map f, ⟨⟨fun c hc => ?_, ?_⟩, some a, cap, by simp, ?_⟩, fun c hc => ?_⟩
    · obtain ⟨i, hi, rfl⟩ := List.mem_map.1 hc
      exact (World.cells?_some (hf i (List.mem_range.1 hi)).1).2.1
    · have : maxLen = 9223372036854775807 := by decide
      simp only [List.length_map, List.length_range]; omega
    · rcases Nat.eq_zero_or_pos len with h0 | h0
      · left; rw [h0]; rfl
      right
      have hcell : ∀ i j, i < len → j < P.cellsOf e → W.cell? ((a.add (i * P.cellsOf e)).add j) = (f i)[j]? := fun i j hi hj => (World.cells?_some (hf i hi).1).2.2 j hj
      have hflen : ∀ i, i < len → (f i).length = P.cellsOf e := fun i hi => (World.cells?_some (hf i hi).1).2.1
      obtain ⟨blk, off, spot⟩ := a
      have add_eq : ∀ i j, ((⟨blk, off, spot⟩ : Addr).add i).add j = (⟨blk, off, spot⟩ : Addr).add (i + j) := fun i j => Deep.add_add _ i j
      have c00 := hcell 0 0 h0 hes
      rw [List.getElem?_eq_getElem (by rw [hflen 0 h0]; exact hes), Nat.zero_mul, add_eq] at c00
      have had0 : (⟨blk, off, spot⟩ : Addr).add (0 + 0) = ⟨blk, off, spot⟩ := rfl
      rw [had0] at c00
      unfold World.cell? at c00
      simp only at c00
      split at c00
      · rename_i c el fr hob
        split at c00
        · cases c00
        · rename_i hsp
          have hspn : spot = Option.none := by cases spot <;> simp_all
          subst hspn
          have hat : ∀ i j, i < len → j < P.cellsOf e → c[off + (i * P.cellsOf e + j)]? = (f i)[j]? := fun i j hi hj => by
            have := hcell i j hi hj
            rw [add_eq, addr_add] at this
            simpa [World.cell?, hob] using this
          have hblk : blk < W.heap.size := (Array.getElem?_eq_some_iff.1 hob).1
          refine ⟨c.toList, by unfold row; rw [if_pos hblk, hob], ?_, ?_⟩
          · simp only [List.length_map, List.length_range, Array.length_toList]
            have hlast := hat (len - 1) (P.cellsOf e - 1) (by omega) (by omega)
            rw [List.getElem?_eq_getElem (by rw [hflen _ (by omega)]; omega)] at hlast
            have hlt := (Array.getElem?_eq_some_iff.1 hlast).1
            have hmul : (len - 1) * P.cellsOf e + P.cellsOf e = len * P.cellsOf e := by
              rw [← Nat.succ_mul]; congr 1; omega
            omega
          · have hall : ∀ c ∈ (List.range len).map f, c.length = P.cellsOf e := fun c hc => by
              obtain ⟨i, hi, rfl⟩ := List.mem_map.1 hc
              exact hflen i (List.mem_range.1 hi)
            apply List.ext_getElem?
            intro q
            rw [List.getElem?_take]
            split
            · rename_i hq
              simp only [List.length_map, List.length_range] at hq
              have hi : q / P.cellsOf e < len := Nat.div_lt_of_lt_mul (by rw [Nat.mul_comm]; exact hq)
              have hj : q % P.cellsOf e < P.cellsOf e := Nat.mod_lt _ hes
              have hq' : q / P.cellsOf e * P.cellsOf e + q % P.cellsOf e = q := by rw [Nat.mul_comm]; exact Nat.div_add_mod q _
              have h1 := hat _ _ hi hj
              have h2 := flat_get hall (i := q / P.cellsOf e) (j := q % P.cellsOf e) (by simpa using hi) hj
              rw [hq'] at h1 h2
              rw [h2, List.getElem?_drop, Array.getElem?_toList, h1]
              simp
            · rename_i hq
              rw [List.getElem?_eq_none]
              rw [flat_len hall]; omega
      · cases c00
    · obtain ⟨i, hi, rfl⟩ := List.mem_map.1 hc
      exact ⟨n, _, (hf i (List.mem_range.1 hi)).2⟩

theorem map_of_all {α β : Type} {f : α → β} {p : α → Prop} : ∀ {l : List β}, (∀ c ∈ l, ∃ a, p a ∧ f a = c) → ∃ k : List α, l = k.map f ∧ ∀ a ∈ k, p a
  | [], _ => ⟨[], rfl, by simp⟩
  | c :: l, h => by
    obtain ⟨a, ha, rfl⟩ := h c (List.mem_cons_self ..)
    obtain ⟨k, rfl, hk⟩ := map_of_all (l := l) fun x hx => h x (List.mem_cons_of_mem _ hx)
    exact ⟨a :: k, rfl, fun x hx => by rcases List.mem_cons.1 hx with rfl | hx; exact ha; exact hk x hx⟩

end
end Go.Proofs.YtemaflbbcihilaaDoor.Fl
