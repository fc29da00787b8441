/- AmZ2: the given statement EchoTrueSaid is proved: for every input the law returns true and its arguments read as before. -/
import Derived.Test.YtdfimlepfaheeaaGreatAmZ
import Derived.Test.YtdfimlepfaheeaaGreatAmZ4
set_option linter.unusedVariables false
set_option linter.unusedSimpArgs false
namespace Go.Proofs.YtdfimlepfaheeaaGreat
open Go.ChangeShapes Go.WideShapes Go.ChangeAt Go.RowKit

set_option maxRecDepth 100000 in
theorem echoTrue_lifted (os : Os) (started : os.Started) (H : Type) (enc : TypeId × Value → H) :
    ReturnsInHanded {} Tryz.checked os 3 .any (Rows.echoTrueSpec.pre6 enc Tryz.prog Tryz.f3 Rows.echoTrueRow.domain false) (Rows.echoTrueSpec.post enc Tryz.prog Tryz.f3 false true false false) := by
  refine returnsInHanded_of_change (C := Tryz.checked) AM.own started (by kernel_rfl) Tryz.func3
    (ChangeSpec.witness6 (enc := enc) (C := Tryz.checked) false ⟨#[], #[.int .i64 0, .slice none 0 0, .slice none 0 0], []⟩ 8 (by kernel_rfl) (by kernel_rfl) (by kernel_rfl) (by kernel_rfl)) ?_
  intro W base args ds gs before hval0 hW hcnd _
  have hval : ∀ (j : Nat) t v, Tryz.f3.params[j]? = some t → args[j]? = some v → Value.okWide Tryz.prog W .any base t v := hval0
  have hW' := hW
  obtain ⟨p, q, hA0, hV, rfl, hfz, hnd⟩ := hW
  have hA : DataW.TrodAll enc Tryz.prog W 0 (fun _ => true) true Tryz.f3.params.toList args.toList ds p := hA0
  rw [AM.params_ok] at hA hval
  obtain ⟨v0, v1, v2, d0, d1, d2, p0, p1, p2, rfl, rfl, rfl, h0, h1, h2⟩ := trodAll_three hA
  obtain ⟨rfl, rfl⟩ := trodVars_none hV
  obtain ⟨cols, rfl, rfl, rfl, wc⟩ := open_int (k := .i64) AM.u_int (hval 0 AM.t_int v0 rfl rfl) h0
  obtain ⟨pl1, n1, b1, hb1⟩ := AM.bytes_arg AM.u_S_uint8 AM.u_uint8 AM.cells_u8 (hval 1 AM.t_S_uint8 v1 rfl rfl) h1
  obtain ⟨pl2, n2, b2, hb2⟩ := AM.bytes_arg AM.u_S_uint8 AM.u_uint8 AM.cells_u8 (hval 2 AM.t_S_uint8 v2 rfl rfl) h2
  refine (AM.EchoTrue_calls (cols := cols) pl1 pl2 hb1 hb2).mono fun e W' ⟨he, hg⟩ => ?_
  subst he
  exact ⟨_, rfl, AM.post_law AM.laidOut AM.params_all AM.res3_ok AM.u_bool rfl hW' hg rfl rfl rfl⟩

theorem echoTrue_holds : Rows.EchoTrueSaid :=
  OpenClaim.holds_of_wide (p := Tryz.pinned) 3 Tryz.f3 rfl rfl rfl rfl rfl rfl rfl ⟨rfl, rfl, rfl, rfl, rfl⟩ rfl rfl rfl rfl rfl AM.echo_named Tryz.func3 AM.echo_closed AM.echo_inst AM.echo_wrap
    (fun os started H enc _ => echoTrue_lifted os started H enc)

#print axioms echoTrue_holds
end Go.Proofs.YtdfimlepfaheeaaGreat
