/- The law of SentText: its row and its card. No conditions. -/
import Derived.Test.YtemaflbbcihilaaDoorCards
import Derived.Test.YtemaflbbcihilaaDoorTie
import Derived.Test.YtemaflbbcihilaaDoorVA
import Derived.WalkKit
import Derived.ProofKit
import Derived.OpenShut
import Derived.ShutString
import Derived.ChangeOld
import Derived.Below
import Derived.SizedLaws
import Derived.Carry
import Derived.Lib.LaidTab
import Derived.Stop.LaidErr
import Derived.Deep.DeepHandedRow
namespace Go.Proofs.YtemaflbbcihilaaDoor.SentTx
open Go.ChangeShapes Go.WideShapes Go.ChangeAt Go.RowKit Go.Proofs.YtemaflbbcihilaaDoor.Fl
set_option linter.unusedVariables false

theorem own : ownKnob Tryd.prog.godebug = none := by kernel_rfl
theorem laidOut : laidOutB Tryd.prog = true := by kernel_rfl

/-- A call from its first world: nothing is known but that world. -/
theorem from_acall {P : Program} {W : World} {f : FuncId} {args : Array Value} {R : Value → Frag → Prop} (h : ACall P W f args Frag.none R) : Calls P f args W fun e W' => ∃ v m', e = .returned v ∧ R v m' ∧ Below W.heap.size W W' :=
  (h W ⟨Below.refl _ _, fun n b hb => by cases hb⟩).mono fun e W' ⟨v, m', he, hR, hf, _⟩ => ⟨v, m', he, hR, hf.below⟩

noncomputable abbrev gPow : Nat := (Tryd.prog.globalNamed "internal/strconv.uint64pow10").getD 0
theorem gTab : Tryd.prog.globalNamed "internal/strconv.uint64pow10" = some gPow := by kernel_rfl
theorem gTabType : (Tryd.prog.globals[gPow]?).map (·.type) = some t_20_uint64 := by kernel_rfl
theorem uTab : Tryd.prog.underlying t_20_uint64 = some (.array 20 t_uint64) := by kernel_rfl
theorem uU64 : Tryd.prog.underlying t_uint64 = some (.int .u64) := by kernel_rfl
theorem laid_eq : Rows.laid_internal_strconv_uint64pow10 = (Lib.tabData .u64 Lib.pow10Tab : DataW Unit) := by kernel_rfl

theorem table {W : World} (h : laidMetH Tryd.prog Rows.fnExactSentTextRow.laid W) : TabOk W := by
  have h1 : laidMet Tryd.prog Rows.fnExactSentTextRow.laid W := h
  have h2 := laidMet.tail (laidMet.tail h1)
  rw [laid_eq] at h2
  exact Lib.tabIs_of_head (rest := []) gTab gTabType uTab uU64 (by kernel_rfl) (by kernel_rfl) h2

theorem walk (W : World) (a : Value) (x y : Int) (l : List ChM) (hT : TabOk W) (ha : slT W Frag.none 10 a (l.map chC)) (hf : ∀ r ∈ l, r.fit) : Calls Tryd.prog n_laws_FnExactSentText #[.agg #[.int .i64 x, .int .i64 y, a]] W fun e W' => e = .returned (.bool true) ∧ Below W.heap.size W W' := by
  refine (from_acall (c_lawSentText (m := Frag.none) hT ha hf)).mono fun e W' ⟨v, m', he, ⟨hv, _⟩, hb⟩ => ⟨by rw [he, hv], hb⟩

set_option maxRecDepth 100000 in
theorem contract (H : Type) (enc : TypeId × Value → H) (W : World) (base : Nat) (args : Array Value) (ds gs : List (DataW H)) (before : List MemPlace)
    (hval : ∀ (j : Nat) t v, Tryd.f5.params[j]? = some t → args[j]? = some v → Value.okWide Tryd.prog W .any base t v)
    (hW : DataW.Whole enc Tryd.prog Tryd.f5.params.toList Rows.fnExactSentTextSpec.vars false W args.toList ds gs before) (hL : laidMetH Tryd.prog Rows.fnExactSentTextRow.laid W) :
    Calls Tryd.prog 5 args W fun e W' => ∃ v, e = .returned v ∧ Rows.fnExactSentTextSpec.post enc Tryd.prog Tryd.f5 false true false false W args v W' := by
  have hW' := hW
  obtain ⟨p, q, hA0, hV, rfl, hfz, hnd⟩ := hW
  have hA : DataW.TrodAll enc Tryd.prog W 0 (fun _ => true) true Tryd.f5.params.toList args.toList ds p := hA0
  rw [Tryd.params5] at hA hval
  obtain ⟨v0, vs0, d0, ds0, p0, q0, hargs, rfl, rfl, h0, r0⟩ := trodAll_cons hA
  obtain ⟨rfl, rfl, rfl⟩ := trodAll_nil r0
  obtain rfl : args = #[v0] := by cases args; simp_all
  obtain ⟨rfl, rfl⟩ := trodVars_none hV
  obtain ⟨cs0, rfl⟩ : ∃ cs, v0 = .agg cs := by
    have h : Value.okWide Tryd.prog W .any base t_laws_Sent v0 := hval 0 t_laws_Sent v0 rfl rfl
    obtain ⟨fs, hu⟩ : ∃ fs, Tryd.prog.underlying t_laws_Sent = some (.struct fs) := by
      have h := so_Sent
      unfold structOf at h
      split at h
      · rename_i fs hfs; exact ⟨fs, hfs⟩
      · cases h
    unfold Value.okWide at h
    rw [hu] at h
    obtain ⟨cs, h1, _⟩ := h
    exact ⟨cs, h1⟩
  have k0 := h0
  have lt0 : ∀ x ∈ p0, x.block < W.heap.size := by obtain ⟨m, hm⟩ := k0; exact DataW.trod_lt m _ _ _ hm
  obtain ⟨x, y, v, l, hc, hl, hf⟩ : ∃ (x y : Int) (v : Value) (l : List ChM), cs0.toList = [.int .i64 x, .int .i64 y, v] ∧ slT W Frag.none 10 v (l.map chC) ∧ ∀ r ∈ l, r.fit := by
    obtain ⟨fuel, hf⟩ := h0
    exact open_sent hf
  obtain rfl : cs0 = #[.int .i64 x, .int .i64 y, v] := Array.ext' (by simpa using hc)
  clear hA0
  refine (walk W _ x y l (table hL) hl hf).mono fun e W' ⟨he, bel⟩ => ?_
  subst he
  exact ⟨_, rfl, _, _, _, [], _, [], hW', trodAll_mk1 (shut_bool Tryd.underlying4 _), (trodAll_cons_mk (Below.trod laidOut (by kernel_rfl) (of_decide_eq_true (by kernel_rfl)) k0 bel lt0) trodAll_mk0), rfl, bel.frame _, fun h => by cases h⟩

/-! ### The witness -/

def litCells : Nat → DataW Unit → List Value
  | _, .lit (.int k n) => [.int k n]
  | f + 1, .agg l => (l.map (litCells f)).flatten
  | _, _ => []

def putCells (cs : Array Value) : Obj → Obj
  | .cells _ t frozen => .cells cs t frozen
  | o => o

/-- A world for the witness: the settled one, each listed variable holding what it is listed to hold. -/
noncomputable def laidWorld (laid : List (String × DataW Unit)) (v : Value) (os : Os) : World :=
  { World.holding Tryd.prog os ⟨#[], #[], []⟩ with heap := laid.foldl (fun h p => h.modify ((Tryd.prog.globalNamed p.1).getD 0) (putCells (litCells 3 p.2).toArray)) (World.holding Tryd.prog os ⟨#[], #[], []⟩).heap }

abbrev wArg : Value := .agg #[.int .i64 0, .int .i64 0, .slice Option.none 0 0]
theorem laid_met (os : Os) : laidMet Tryd.prog Rows.fnExactSentTextRow.laid ((laidWorld Rows.fnExactSentTextRow.laid wArg os).forCall (fun _ _ => 0) ⟨#[], #[wArg], []⟩).memory :=
  laidMet_of_run' 8 (by kernel_rfl) (by kernel_rfl)
theorem reads (os : Os) {H : Type} (enc : TypeId × Value → H) : ∃ places, DataW.whole enc Tryd.prog ((laidWorld Rows.fnExactSentTextRow.laid wArg os).forCall (fun _ _ => 0) ⟨#[], #[wArg], []⟩).memory Tryd.f5.params.toList Rows.fnExactSentTextSpec.vars false #[wArg].toList 8 = some ([.agg [.lit (.int .i64 0), .lit (.int .i64 0), .nil]], [], places) :=
  ⟨[], by kernel_rfl⟩

set_option maxRecDepth 100000 in
theorem lifted (os : Os) (started : os.Started) (H : Type) (enc : TypeId × Value → H) (F : Stop.Interp) :
    ReturnsInHanded {} Tryd.checked os 5 .any ((OpenSpec.ofChange Rows.fnExactSentTextSpec).preRow enc Tryd.prog Tryd.f5 Rows.fnExactSentTextRow.domain false Rows.fnExactSentTextRow.laid) (((OpenSpec.ofChange Rows.fnExactSentTextSpec).at F).post enc Tryd.prog Tryd.f5 false true false false) := by
  obtain ⟨places, hx⟩ := reads os enc
  refine returnsInHanded_of_row (C := Tryd.checked) (s := OpenSpec.ofChange Rows.fnExactSentTextSpec) own started (by kernel_rfl) Tryd.func5
    (witness_row_at (enc := enc) (C := Tryd.checked) false (laidWorld Rows.fnExactSentTextRow.laid wArg os) #[wArg] rfl (by kernel_rfl) (by kernel_rfl) (by kernel_rfl)
      (OpenSpec.preRow_of_cond 8 hx (by kernel_rfl) (fun k hk => by cases hk) (by kernel_rfl) (laid_met os))) ?_
  intro W base args ds gs before hval hW _ _ _ hL _ _
  exact contract H enc W base args ds gs before hval hW hL

theorem said : Rows.FnExactSentTextSaid :=
  OpenClaim.holds_of_cond 5 Tryd.f5 rfl rfl rfl rfl rfl rfl rfl ⟨rfl, rfl, rfl, rfl, rfl⟩ rfl rfl rfl rfl rfl (by kernel_rfl) Tryd.func5 (by kernel_rfl)
    (of_decide_eq_true (by kernel_rfl)) (by unfold Func.isWrapper; first | (rw [if_pos (by decide +kernel)]; kernel_rfl) | (rw [if_neg (by decide +kernel)]; exact ⟨rfl, rfl⟩))
    (fun os started H enc _ F => by rw [OpenClaim.pre_eq_preRow]; exact lifted os started H enc F)

theorem plain (f : FuncId) (fn : Func) (hf : Tryd.pinned.checked.prog.funcNamed "loop.example/g00408/laws.FnExactSentText" = some f) (hfn : Tryd.pinned.checked.prog.funcs[f]? = some fn) :
    false = Tryd.pinned.checked.prog.looks [] ∧ ∀ (j : Nat) t, fn.params[j]? = some t → Tryd.pinned.checked.prog.wantsStandIn t = false := by
  obtain rfl : f = 5 := Option.some.inj ((show Tryd.prog.funcNamed "loop.example/g00408/laws.FnExactSentText" = some 5 by kernel_rfl).symm.trans hf) |>.symm
  obtain rfl : fn = Tryd.f5 := (Option.some.inj (Tryd.func5.symm.trans hfn)).symm
  refine ⟨by kernel_rfl, fun j t ht => ?_⟩
  rw [Tryd.params5] at ht
  obtain rfl : t = t_laws_Sent := by simpa using Array.mem_of_getElem? ht
  exact (show Tryd.prog.wantsStandIn t_laws_Sent = false by kernel_rfl)

theorem card : Rows.FnExactSentTextCardSaid :=
  Claim7.holds_tied_plain_at .later [] _ _ _ _ said (fun _ h => by cases h) (by kernel_rfl) (fun _ h => by cases h) fnExactSentText_row_tie rfl ⟨rfl, rfl⟩ (by kernel_rfl) rfl plain (by kernel_rfl)

end Go.Proofs.YtemaflbbcihilaaDoor.SentTx

namespace Go.Proofs.YtemaflbbcihilaaDoor
/-- The law of SentText holds of the program. -/
theorem sentText_card : Rows.FnExactSentTextCardSaid := SentTx.card
end Go.Proofs.YtemaflbbcihilaaDoor
#print axioms Go.Proofs.YtemaflbbcihilaaDoor.sentText_card
