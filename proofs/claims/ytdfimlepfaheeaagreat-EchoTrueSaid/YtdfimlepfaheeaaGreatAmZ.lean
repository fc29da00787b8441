/- AmZ: EchoTrue holds. -/
import Derived.Test.YtdfimlepfaheeaaGreatRows
import Derived.Test.YtdfimlepfaheeaaGreatAmY
import Derived.Test.YtdfimlepfaheeaaGreatAmE9
import Derived.OpenShut
set_option linter.unusedVariables false
set_option linter.unusedSimpArgs false
namespace Go.AM
open Go.ChangeShapes Go.WideShapes Go.ChangeAt Go.RowKit Go.Proofs Go.Proofs.YtdfimlepfaheeaaGreat

theorem own : ownKnob Tryz.prog.godebug = none := by kernel_rfl
theorem laidOut : laidOutB Tryz.prog = true := by kernel_rfl
theorem mixed : pg.follows .mixedOrders = true := by kernel_rfl
theorem ty_int : (Tryz.prog.readableRec t_int && decide (t_int < Tryz.prog.types.size)) = true := by kernel_rfl
theorem ty_S_uint8 : (Tryz.prog.readableRec t_S_uint8 && decide (t_S_uint8 < Tryz.prog.types.size)) = true := by kernel_rfl
theorem params_ok : Tryz.f3.params = #[t_int, t_S_uint8, t_S_uint8] := by kernel_rfl
theorem params_all : Tryz.f3.params.toList.all (fun t => Tryz.prog.readableRec t && decide (t < Tryz.prog.types.size)) = true := by kernel_rfl
theorem res3_ok : Tryz.f3.resultTypes = #[t_bool] := by kernel_rfl
theorem cells_u8 : Tryz.prog.cellsOf t_uint8 = 1 := by kernel_rfl
theorem enter_ok (args : Array Value) (w : World) : (callFunc n_law35_EchoTrue args).run pg w = .ok (.enter n_law35_EchoTrue args) w := by
  have hf : pg.funcs[n_law35_EchoTrue]? = some Tryz.f3 := Tryz.func3
  have h1 : (Tryz.f3.name == "runtime.NumGoroutine") = false := by kernel_rfl
  have h2 : Tryz.f3.body.isNone = false := by kernel_rfl
  have h3 : ¬ Tryz.f3.name = "runtime.NumGoroutine" := fun h => by rw [h] at h1; exact absurd h1 (by decide)
  have h4 : ¬ Tryz.f3.body = none := fun h => by rw [h] at h2; cases h2
  simp [callFunc, hf, h3, h4]

def saysTrue (o : Option (Value × St)) : Bool := match o with | some (.bool true, _) => true | _ => false
theorem alive_run : ∃ S1, callS pg (fun _ => none) n_law35_alive [] St.nil = some (.bool true, S1) := by
  have h : saysTrue (callP pg (fun _ => none) codes 400 40 n_law35_alive [] St.nil) = true := by kernel_rfl
  unfold saysTrue at h
  split at h
  · rename_i S1 hr
    exact ⟨S1, callP_ok (fun f a h => codes_ok f a h) 40 _ _ _ _ hr⟩
  · cases h
theorem hook_ok : HookSound pg hk := by
  obtain ⟨S1, h⟩ := alive_run
  exact hook_of_run mixed h

/-- In every world. -/
theorem EchoTrue_calls {W : World} {cols : Int} {text ahead : Value} {nt na : Nat} {tb ab : Nat → Int} (p1 : plainV W.heap.size text = true) (p2 : plainV W.heap.size ahead = true) (h1 : Bytes (St.ofW W) text nt tb) (h2 : Bytes (St.ofW W) ahead na ab) :
    Calls Tryz.prog 3 #[.int .i64 cols, text, ahead] W fun e w' => e = .returned (.bool true) ∧ Below W.heap.size W w' := by
  have hrun : Ok (cs n_law35_EchoTrue [.int .i64 cols, text, ahead] (St.ofW W)) fun q => q.1 = .bool true := by
    by_cases hc : 1 ≤ cols ∧ cols ≤ 40
    · obtain ⟨c, rfl⟩ : ∃ c : Nat, cols = c := ⟨cols.toNat, by omega⟩
      exact EchoTrue_good (Nat.le_refl _) ⟨by omega, by omega⟩ h1 h2
    · exact EchoTrue_bad hc
  obtain ⟨⟨v, S1⟩, hr, hv⟩ := hrun
  dsimp only at hv
  subst hv
  exact calls_of_run (P := pg) mixed hook_ok (fn := Tryz.f3) (c := .seq .skip .skip) Tryz.func3 (args := #[.int .i64 cols, text, ahead]) (enter_ok _) (by have p0 : plainV W.heap.size (.int .i64 cols) = true := rfl; simp [p0, p1, p2]) hr

/-- A reading of arguments, one by one, in a world that is as it was below. -/
theorem trodAll_below {H : Type} {enc : TypeId × Value → H} {P : Program} (hl : laidOutB P = true) {W W' : World} (hb : Below W.heap.size W W') : ∀ {ts : List TypeId} {vs : List Value} {ds : List (DataW H)} {ps : List MemPlace},
    ts.all (fun t => P.readableRec t && decide (t < P.types.size)) = true → DataW.TrodAll enc P W 0 (fun _ => true) true ts vs ds ps → (∀ x ∈ ps, x.block < W.heap.size) → DataW.TrodAll enc P W' 0 (fun b => decide (b < W.heap.size)) true ts vs ds ps
  | [], _, _, _, _, h, _ => by
    obtain ⟨rfl, rfl, rfl⟩ := trodAll_nil h
    rfl
  | t :: ts, _, _, _, ht, h, hlt => by
    obtain ⟨v, vs, d, ds, p, q, rfl, rfl, rfl, h1, h2⟩ := trodAll_cons h
    simp only [List.all_cons, Bool.and_eq_true, decide_eq_true_eq] at ht
    exact ⟨p, q, Below.trod hl ht.1.1 ht.1.2 h1 hb (fun x hx => hlt x (by simp [hx])), trodAll_below hl hb (by simpa using ht.2) h2 (fun x hx => hlt x (by simp [hx])), rfl⟩

/-- What is left when the law says true and nothing of old has turned. -/
theorem post_law {H : Type} {enc : TypeId × Value → H} {P : Program} {f : Func} {s : ChangeSpec} {W W' : World} {args : Array Value} {ds gs : List (DataW H)} {before : List MemPlace} {tb : TypeId} (hl : laidOutB P = true) (hts : f.params.toList.all (fun t => P.readableRec t && decide (t < P.types.size)) = true)
    (hr : f.resultTypes = #[tb]) (hb : P.underlying tb = some .bool) (hv : s.vars = [])
    (hW : DataW.Whole enc P f.params.toList s.vars false W args.toList ds gs before) (hbel : Below W.heap.size W W') (hres : (s.fn H (ds ++ gs)).results = [.lit (.bool true)]) (hargs : (s.fn H (ds ++ gs)).args = ds) (hvars : (s.fn H (ds ++ gs)).vars = []) :
    s.post enc P f false true false false W args (.bool true) W' := by
  have hlt : ∀ p ∈ before, p.block < W.heap.size := fun p hp => hW.lt p hp
  have hW0 := hW
  obtain ⟨p, q, hA, hV, hps, hfz, hnd⟩ := hW
  rw [hv] at hV
  obtain ⟨rfl, rfl⟩ := trodVars_none hV
  refine ⟨ds, [], before, [], p, [], hW0, ?_, ?_, ?_, hbel.frame _, fun h => by cases h⟩
  · rw [hres, hr]
    exact trodAll_mk1 (shut_bool hb true)
  · rw [hargs]
    exact trodAll_below hl hbel hts hA (fun x hx => hlt x (by rw [hps]; simp [hx]))
  · rw [hv, hvars]; rfl

end Go.AM
