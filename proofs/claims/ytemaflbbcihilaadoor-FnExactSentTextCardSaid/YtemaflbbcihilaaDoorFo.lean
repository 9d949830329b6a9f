/- Results that own their block, and what is appended to them. No conditions. -/
import Derived.Test.YtemaflbbcihilaaDoorFt
namespace Go.Proofs.YtemaflbbcihilaaDoor.Fl
open Go Go.RowKit
set_option linter.unusedSimpArgs false
set_option linter.unusedVariables false

/-- Beside what m knows, m' knows the slice v's own block: its elements' cells cs, and some behind them. -/
def OwnR (w0 : World) (m m' : Frag) (es : Nat) (e : TypeId) (v : Value) (k : Nat) (cs : List Value) : Prop := cs.length = k * es ∧ ((v = .slice Option.none 0 0 ∧ k = 0 ∧ Ext m m') ∨
  ∃ b c rest, w0.heap.size ≤ b ∧ m b = Option.none ∧ v = .slice (some ⟨b, 0, Option.none⟩) k c ∧ k ≤ c ∧ cs.length + rest.length = c * es ∧ Ext (m.set b (.cells (cs ++ rest) (c * es) e)) m')

theorem Ext.of_none {m m' : Frag} (h : Ext m m') {b : Nat} (hb : m' b = Option.none) : m b = Option.none := by
  cases hm : m b with
  | none => rfl
  | some x => rw [h _ _ hm] at hb; cases hb

theorem OwnR.ext {w0 : World} {m m1 m2 : Frag} {es : Nat} {e : TypeId} {v : Value} {k : Nat} {cs : List Value} (h : OwnR w0 m m1 es e v k cs) (hx : Ext m1 m2) : OwnR w0 m m2 es e v k cs := by
  obtain ⟨h0, h⟩ := h
  refine ⟨h0, ?_⟩
  rcases h with ⟨h1, h2, h3⟩ | ⟨b, c, rest, h1, h2, h3, h4, h5, h6⟩
  · exact Or.inl ⟨h1, h2, h3.trans hx⟩
  · exact Or.inr ⟨b, c, rest, h1, h2, h3, h4, h5, h6.trans hx⟩

/-- What is owned beside what another's base knows. -/
theorem OwnR.base {w0 : World} {m m0 m1 : Frag} {es : Nat} {e : TypeId} {v : Value} {k : Nat} {cs : List Value} (h : OwnR w0 m m1 es e v k cs) (hx : Ext m0 m) : OwnR w0 m0 m1 es e v k cs := by
  obtain ⟨h0, h⟩ := h
  refine ⟨h0, ?_⟩
  rcases h with ⟨h1, h2, h3⟩ | ⟨b, c, rest, h1, h2, h3, h4, h5, h6⟩
  · exact Or.inl ⟨h1, h2, hx.trans h3⟩
  · exact Or.inr ⟨b, c, rest, h1, hx.of_none h2, h3, h4, h5, (Frag.set_ext hx b _).trans h6⟩

theorem OwnR.keep {w0 : World} {m m1 : Frag} {es : Nat} {e : TypeId} {v : Value} {k : Nat} {cs : List Value} (h : OwnR w0 m m1 es e v k cs) : Ext m m1 := by
  rcases h.2 with ⟨_, _, h3⟩ | ⟨b, c, rest, h1, h2, h3, h4, h5, h6⟩
  · exact h3
  · exact (Ext.set _ h2).trans h6

theorem OwnR.nil {w0 : World} {m m' : Frag} {es : Nat} {e : TypeId} (h : Ext m m') : OwnR w0 m m' es e (.slice Option.none 0 0) 0 [] := ⟨by simp, Or.inl ⟨rfl, rfl, h⟩⟩
theorem OwnR.new {w0 : World} {m m' : Frag} {es : Nat} {e : TypeId} {b k : Nat} {cs : List Value} {s : Nat} (hB : w0.heap.size ≤ b) (hb : m b = Option.none) (hl : cs.length = k * es) (hs : s = k * es) (h : Ext (m.set b (.cells cs s e)) m') : OwnR w0 m m' es e (.slice (some ⟨b, 0, Option.none⟩) k k) k cs :=
  ⟨hl, Or.inr ⟨b, k, [], hB, hb, rfl, Nat.le_refl _, by simpa using hl, by rw [List.append_nil, ← hs]; exact h⟩⟩

theorem apH_own {w0 : World} {m m1 : Frag} {es : Nat} {e : TypeId} {x y : Value} {k n : Nat} {cs ys : List Value} {K : Value → Frag → Prop} {h : Hid K} (ho : OwnR w0 m m1 es e x k cs) (hy : srcS w0 m1 es y n ys) (hone : ∀ y ∈ ys, oneC y = true) (hle : k + n ≤ 2 ^ 34)
    (hK : ∀ v m2, OwnR w0 m m2 es e v (k + n) (cs ++ ys) → K v m2) : apH w0 m1 es e x y K h := by
  obtain ⟨h0, ho⟩ := ho
  have hyl := src_len hy
  rcases ho with ⟨h1, h2, h3⟩ | ⟨b0, c0, rest0, h1, h2, h3, h4, h5, h6⟩
  · subst h1 h2
    have : cs = [] := List.eq_nil_of_length_eq_zero (by omega)
    subst this
    refine ⟨0, n, [], ys, ⟨rfl, rfl, rfl, rfl⟩, hy, hone, hle, fun _ hn => ?_, fun hn b c rest hB hb hc hl => ?_⟩
    · subst hn
      have : ys = [] := List.eq_nil_of_length_eq_zero (by omega)
      subst this
      exact hK _ _ (OwnR.nil h3)
    · refine hK _ _ ⟨by simpa using hyl, Or.inr ⟨b, c, rest, hB, h3.of_none hb, rfl, hc, hl, Frag.set_ext h3 b _⟩⟩
  · subst h3
    have hm1 : m1 b0 = some (.cells (cs ++ rest0) (c0 * es) e) := h6 _ _ (Frag.set_same _ _ _)
    refine ⟨k, n, cs, ys, ⟨rfl, rfl, h4, h1, h0, rest0, h5, hm1⟩, hy, hone, hle, (fun hh => by cases hh), fun _ b c rest hB hb hc hl => ?_⟩
    have hx : Ext m (m1.del b0) := fun q x hq => by
      have hne : q ≠ b0 := fun e => by subst e; rw [h2] at hq; cases hq
      rw [Frag.del_ne _ hne]
      exact h6 _ _ (by rw [Frag.set_ne _ _ hne]; exact hq)
    have hb' : (m1.del b0) b = Option.none := hb
    refine hK _ _ ⟨by rw [List.length_append, h0, hyl, Nat.add_mul], Or.inr ⟨b, c, rest, hB, hx.of_none hb', rfl, hc, hl, Frag.set_ext hx b _⟩⟩

/-- What is owned may be read. -/
theorem OwnR.sl {w0 : World} {m m1 : Frag} {es : Nat} {e : TypeId} {v : Value} {el : List (List Value)} (h : OwnR w0 m m1 es e v el.length el.flatten) (hes : ∀ c ∈ el, c.length = es) (hl : el.length ≤ 2 ^ 40) : slT w0 m1 es v el := by
  refine ⟨⟨hes, by omega⟩, ?_⟩
  rcases h.2 with ⟨h1, h2, h3⟩ | ⟨b, c, rest, h1, h2, h3, h4, h5, h6⟩
  · exact ⟨Option.none, 0, by rw [h1, h2], Or.inl (List.eq_nil_of_length_eq_zero h2)⟩
  · refine ⟨_, c, h3, Or.inr ⟨el.flatten ++ rest, row_own h1 (h6 _ _ (Frag.set_same _ _ _)), ?_, ?_⟩⟩
    · have := h.1; rw [List.length_append]; omega
    · have := h.1; rw [List.drop_zero, ← this, List.take_left]

theorem src_one {w0 : World} {m : Frag} {b k c : Nat} {es size : Nat} {e : TypeId} {cs : List Value} (hB : w0.heap.size ≤ b) (hm : m b = some (.cells cs size e)) (hl : cs.length = k * es) : srcS w0 m es (.slice (some ⟨b, 0, Option.none⟩) k c) k cs :=
  ⟨rfl, cs, row_own hB hm, by omega, by rw [List.drop_zero, ← hl, List.take_length]⟩

/-- Of two that are owned one behind the other, the later one may be laid ahead. -/
theorem OwnR.swap {w0 : World} {m m1 m2 : Frag} {es es' : Nat} {e e' : TypeId} {v u : Value} {k k' : Nat} {cs cs' : List Value} (h : OwnR w0 m m1 es e v k cs) (g : OwnR w0 m1 m2 es' e' u k' cs') :
    ∃ mP, Ext m mP ∧ OwnR w0 mP m2 es e v k cs ∧ OwnR w0 m mP es' e' u k' cs' := by
  obtain ⟨g0, g⟩ := g
  rcases g with ⟨g1, g2, g3⟩ | ⟨b2, c2, rest2, g1, g2, g3, g4, g5, g6⟩
  · exact ⟨m, Ext.refl _, h.ext g3, g0, Or.inl ⟨g1, g2, Ext.refl _⟩⟩
  · have hmb : m b2 = Option.none := h.keep.of_none g2
    refine ⟨m.set b2 (.cells (cs' ++ rest2) (c2 * es') e'), Ext.set _ hmb, ?_, g0, Or.inr ⟨b2, c2, rest2, g1, hmb, g3, g4, g5, Ext.refl _⟩⟩
    obtain ⟨h0, h⟩ := h
    refine ⟨h0, ?_⟩
    rcases h with ⟨h1, h2, h3⟩ | ⟨b, c, rest, h1, h2, h3, h4, h5, h6⟩
    · exact Or.inl ⟨h1, h2, (Frag.set_ext h3 _ _).trans g6⟩
    · have hne : b2 ≠ b := fun eq => by
        have := h6.of_none g2
        rw [eq, Frag.set_same] at this; cases this
      refine Or.inr ⟨b, c, rest, h1, ?_, h3, h4, h5, ?_⟩
      · rw [Frag.set_ne _ _ (Ne.symm hne)]; exact h2
      · rw [Frag.set_comm m _ _ hne]
        exact (Frag.set_ext h6 _ _).trans g6

theorem flat_one {α : Type} (f : α → Value) (l : List α) : (l.map fun x => [f x]).flatten = l.map f := by
  induction l with
  | nil => rfl
  | cons a l ih => rw [List.map_cons, List.flatten_cons, ih]; rfl

theorem cellsOf_of {m : Frag} {n size : Nat} {cs : List Value} {e : TypeId} (h : m n = some (.cells cs size e)) : cellsOf m n = some (cs, size, e) := by simp [cellsOf, h]

/-- A variable of the call's own that is written to is nothing to what is owned beside it. -/
theorem OwnR.other {w0 : World} {m m2 : Frag} {es : Nat} {e : TypeId} {v : Value} {k b : Nat} {cs : List Value} {X Y : Blk} (hb : m b = Option.none) (h : OwnR w0 (m.set b X) m2 es e v k cs) : OwnR w0 m (m2.set b Y) es e v k cs := by
  obtain ⟨h0, h⟩ := h
  refine ⟨h0, ?_⟩
  have key : ∀ {m' : Frag}, m' b = Option.none → Ext (m'.set b X) m2 → Ext m' (m2.set b Y) := fun {m'} hn hx q x hq => by
    have hne : q ≠ b := fun e => by subst e; rw [hn] at hq; cases hq
    rw [Frag.set_ne _ _ hne]
    exact hx _ _ (by rw [Frag.set_ne _ _ hne]; exact hq)
  rcases h with ⟨h1, h2, h3⟩ | ⟨b2, c, rest, h1, h2, h3, h4, h5, h6⟩
  · exact Or.inl ⟨h1, h2, key hb h3⟩
  · have hne : b2 ≠ b := fun eq => by rw [eq, Frag.set_same] at h2; cases h2
    rw [Frag.set_ne _ _ hne] at h2
    refine Or.inr ⟨b2, c, rest, h1, h2, h3, h4, h5, key ?_ ?_⟩
    · rw [Frag.set_ne _ _ (Ne.symm hne)]; exact hb
    · rw [Frag.set_comm m _ _ hne]; exact h6

theorem OwnR.shape {w0 : World} {m m2 : Frag} {es : Nat} {e : TypeId} {v : Value} {k : Nat} {cs : List Value} (h : OwnR w0 m m2 es e v k cs) : ∃ a c, v = .slice a k c := by
  rcases h.2 with ⟨h1, h2, _⟩ | ⟨_, c, _, _, _, h3, _⟩
  · exact ⟨_, _, by rw [h2]; exact h1⟩
  · exact ⟨_, _, h3⟩

/-- A new block beside both. -/
theorem OwnR.push {w0 : World} {m m2 : Frag} {es : Nat} {e : TypeId} {v : Value} {k q : Nat} {cs : List Value} {Y : Blk} (h : OwnR w0 m m2 es e v k cs) (hq : m2 q = Option.none) : OwnR w0 (m.set q Y) (m2.set q Y) es e v k cs := by
  obtain ⟨h0, h⟩ := h
  refine ⟨h0, ?_⟩
  rcases h with ⟨h1, h2, h3⟩ | ⟨b, c, rest, h1, h2, h3, h4, h5, h6⟩
  · exact Or.inl ⟨h1, h2, Frag.set_ext h3 _ _⟩
  · have hne : b ≠ q := fun eq => by
      have := h6 _ _ (Frag.set_same m b _)
      rw [eq, hq] at this; cases this
    refine Or.inr ⟨b, c, rest, h1, by rw [Frag.set_ne _ _ hne]; exact h2, h3, h4, h5, ?_⟩
    rw [← Frag.set_comm m _ _ hne]
    exact Frag.set_ext h6 _ _

/-- A block of the base is written to beside what is owned. -/
theorem OwnR.upd {w0 : World} {m m2 : Frag} {es : Nat} {e : TypeId} {v : Value} {k q : Nat} {cs : List Value} {X Y : Blk} (h : OwnR w0 m m2 es e v k cs) (hq : m q = some X) : OwnR w0 (m.set q Y) (m2.set q Y) es e v k cs := by
  obtain ⟨h0, h⟩ := h
  refine ⟨h0, ?_⟩
  rcases h with ⟨h1, h2, h3⟩ | ⟨b, c, rest, h1, h2, h3, h4, h5, h6⟩
  · exact Or.inl ⟨h1, h2, Frag.set_ext h3 _ _⟩
  · have hne : b ≠ q := fun eq => by subst eq; rw [h2] at hq; cases hq
    refine Or.inr ⟨b, c, rest, h1, by rw [Frag.set_ne _ _ hne]; exact h2, h3, h4, h5, ?_⟩
    rw [← Frag.set_comm _ _ _ hne]
    exact Frag.set_ext h6 _ _

end Go.Proofs.YtemaflbbcihilaaDoor.Fl
