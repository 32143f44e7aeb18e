/- JournalKeeps answers true whatever is handed in, of a bulk of at most 1048576 values and letters; each argument reads behind the call as it read before. -/
import Derived.Below
import Derived.ChangeOld
import Derived.JoinedCond
import Derived.OpenShut
import Derived.ProofKit
import Derived.SizedLaws
import Derived.Test.YtmhjhhlgdenlkaaRows
import Derived.WalkKit
import Derived.Test.YtmhjhhlgdenlkaaKeep3
import Derived.Test.YtmhjhhlgdenlkaaKeep5
set_option linter.unusedVariables false
namespace Go.Proofs.Ytmhjhhlgdenlkaa.journalKeeps
open Go.ChangeShapes Go.WideShapes Go.ChangeAt Go.RowKit
theorem own : ownKnob Try.prog.godebug = none := by kernel_rfl
theorem laidOut : laidOutB Try.prog = true := by kernel_rfl
set_option maxRecDepth 100000 in
theorem contract (H : Type) (enc : TypeId × Value → H) (W : World) (base : Nat) (args : Array Value) (ds gs : List (DataW H)) (before : List MemPlace)
    (hval : ∀ (j : Nat) t v, Try.f3.params[j]? = some t → args[j]? = some v → Value.okWide Try.prog W .any base t v)
    (hW : DataW.Whole enc Try.prog Try.f3.params.toList Rows.journalKeepsSpec.vars false W args.toList ds gs before) (hk : Rows.uptoSmall H (ds ++ gs) = true) :
    Calls Try.prog 3 args W fun e W' => ∃ v, e = .returned v ∧ Rows.journalKeepsSpec.post enc Try.prog Try.f3 false true false false W args v W' := by
  have hW' := hW
  obtain ⟨p, q, hA0, hV, rfl, hfz, hnd⟩ := hW
  have hA : DataW.TrodAll enc Try.prog W 0 (fun _ => true) true Try.f3.params.toList args.toList ds p := hA0
  rw [Try.params3] at hA hval
  obtain ⟨v0, vs0, d0, ds0, p0, q0, hargs, rfl, rfl, h0, r0⟩ := trodAll_cons hA
  obtain ⟨rfl, rfl, rfl⟩ := trodAll_nil r0
  obtain rfl : args = #[v0] := by cases args; simp_all
  obtain ⟨rfl, rfl⟩ := trodVars_none hV
  have k0 := h0
  have lt0 : ∀ x ∈ p0, x.block < W.heap.size := by obtain ⟨m, hm⟩ := k0; exact DataW.trod_lt m _ _ _ hm
  have hb : Rows.uptoBulkAll ([d0] ++ []) ≤ 1048576 := of_decide_eq_true hk
  simp only [List.cons_append, List.nil_append, Rows.uptoBulkAll] at hb
  obtain ⟨A0, c0, l0, A1, c1, l1, A2, c2, l2, s, t, c, n, A3, c3, l3, rfl, hl0, hC0, hl1, hC1, hl2, hC2, hl3, hC3, hm⟩ := Opens.ask_open (hval 0 35 v0 rfl rfl) k0
  have hlen := Opens.sum_len Opens.m42 l0 (fun a _ => by unfold Opens.m42; omega)
  have hlen1 := Opens.sum_len (fun s : ByteArray => s.size + 1) l1 (fun a _ => by omega)
  have hlen3 := Opens.sum_len Opens.m77 l3 (fun a _ => by unfold Opens.m77; omega)
  have hzr : ∀ r, r ∈ l0 → r.f5.length ≤ 1048576 ∧ ∀ x : P.S80, x ∈ r.f5 → x.f0.size ≤ 140737488351232 := by
    intro r hr
    have h1 := Opens.sum_mem Opens.m42 l0 r hr
    have h2 := Opens.sum_len Opens.m80 r.f5 (fun a _ => by unfold Opens.m80; omega)
    have h4 : (r.f5.map Opens.m80).sum ≤ Opens.m42 r := by unfold Opens.m42; omega
    refine ⟨by omega, fun x hx => ?_⟩
    have h3 := Opens.sum_mem Opens.m80 r.f5 x hx
    have h5 : x.f0.size ≤ Opens.m80 x := by unfold Opens.m80; omega
    omega
  refine (P.JournalKeeps_calls A0 c0 l0 A1 c1 l1 A2 c2 l2 s t c n A3 c3 l3 W hl0 hC0 hl1 hC1 hl2 hC2 hl3 hC3 (by omega) (by omega) (by omega) hzr).mono fun e W' ⟨he, bel⟩ => ?_
  subst he
  exact ⟨_, rfl, _, _, _, [], _, [], hW', trodAll_mk1 (shut_bool Try.underlying4 _), (trodAll_cons_mk (Below.trod laidOut (by kernel_rfl) (of_decide_eq_true (by kernel_rfl)) k0 bel lt0) trodAll_mk0), rfl, bel.frame _, fun h => by cases h⟩
set_option maxRecDepth 100000 in
theorem lifted (os : Os) (started : os.Started) (H : Type) (enc : TypeId × Value → H) (F : Stop.Interp) :
    ReturnsInHanded {} Try.checked os 3 .any ((Rows.OpenSpec.upto Rows.journalKeepsSpec).pre6 enc Try.prog Try.f3 Rows.journalKeepsUptoRow.domain false) (((Rows.OpenSpec.upto Rows.journalKeepsSpec).at F).post enc Try.prog Try.f3 false true false false) := by
  refine returnsInHanded_of_cond (C := Try.checked) (s := Rows.OpenSpec.upto Rows.journalKeepsSpec) (k := Rows.uptoSmall) rfl own started (by kernel_rfl) Try.func3
    (OpenSpec.witness (enc := enc) (C := Try.checked) (s := Rows.OpenSpec.upto Rows.journalKeepsSpec) (k := Rows.uptoSmall) rfl false ⟨#[], #[.agg #[.slice none 0 0, .slice none 0 0, .slice none 0 0, .string ByteArray.empty, .string ByteArray.empty, .int .i64 0, .int .i64 0, .slice none 0 0]], []⟩ 8 (by kernel_rfl) (by kernel_rfl) (by kernel_rfl)
      (x := ([.agg [.agg [.nil, .agg [.nil, .nil]], .agg [.agg [.lit (.string []), .lit (.string []), .lit (.int .i64 0)], .lit (.int .i64 0), .nil]]], [], [])) (by kernel_rfl) rfl (by kernel_rfl)) ?_
  intro W base args ds gs before hval hW _ hk _
  exact contract H enc W base args ds gs before hval hW hk
theorem over : Rows.journalKeepsUptoRow.holds Try.pinned (Rows.OpenSpec.upto Rows.journalKeepsSpec) :=
  OpenClaim.holds_of_cond 3 Try.f3 rfl rfl rfl rfl rfl rfl rfl ⟨rfl, rfl, rfl, rfl, rfl⟩ rfl rfl rfl rfl rfl (by kernel_rfl) Try.func3 (by kernel_rfl)
    (of_decide_eq_true (by kernel_rfl)) (by unfold Func.isWrapper; first | (rw [if_pos (by decide +kernel)]; kernel_rfl) | (rw [if_neg (by decide +kernel)]; exact ⟨rfl, rfl⟩))
    (fun os started H enc _ F => lifted os started H enc F)
theorem proved : Rows.JournalKeepsUptoSaid := over
#print axioms proved
end Go.Proofs.Ytmhjhhlgdenlkaa.journalKeeps
namespace Go.Proofs.Ytmhjhhlgdenlkaa
theorem journalKeeps_holds : Rows.JournalKeepsUptoSaid := journalKeeps.proved
end Go.Proofs.Ytmhjhhlgdenlkaa
