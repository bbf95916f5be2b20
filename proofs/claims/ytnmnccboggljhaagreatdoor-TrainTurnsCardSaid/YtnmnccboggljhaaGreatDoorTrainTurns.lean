/- TrainTurns: the law answers true at every input and leaves its arguments as they were; no condition but what the card says. -/
import Derived.Test.YtnmnccboggljhaaGreatDoorRowB
import Derived.Test.YtnmnccboggljhaaGreatDoorLawTurns
import Derived.Test.YtnmnccboggljhaaGreatDoorTie
import Derived.Test.YtnmnccboggljhaaGreatDoorCards
namespace Go.Proofs.YtnmnccboggljhaaGreatDoor
open Go Go.ChangeShapes Go.WideShapes Go.ChangeAt Go.WideMaps Go.WideElems Go.RowKit Go.Lm
set_option maxRecDepth 100000
theorem lifted_trainTurns (os : Os) (started : os.Started) (H : Type) (enc : TypeId × Value → H) :
    ReturnsInHanded {} Tryz.checked os 6 .any (fun w args => (Rows.trainTurnsSpec.pre enc Tryz.prog Tryz.f6 [] false w args ∧ laidMetH Tryz.prog Rows.trainTurnsRow.laid w) ∧ sizedMet enc Tryz.prog Tryz.f6 (OpenSpec.ofChange Rows.trainTurnsSpec) false w args)
      (Rows.trainTurnsSpec.post enc Tryz.prog Tryz.f6 false true false false) := by
  refine returnsInHanded_of_change_and (C := Tryz.checked) (X := fun w _ => laidMetH Tryz.prog Rows.trainTurnsRow.laid w) (fun _ _ _ hh h => h.of_heap hh) own started (by kernel_rfl) Tryz.func6
    (ChangeSpec.witness_shaped (enc := enc) (C := Tryz.checked) (os := os) (X := fun w _ => laidMetH Tryz.prog Rows.trainTurnsRow.laid w) false (w0 os) #[.slice none 0 0] 8 rfl (w0_shaped os _) (by kernel_rfl) (by kernel_rfl) (by kernel_rfl) (w0_laid os _)) ?_
  intro W base args ds gs before hval0 hW _ hsz hL _
  have hval : ∀ (j : Nat) t v, Tryz.f6.params[j]? = some t → args[j]? = some v → Value.okWide Tryz.prog W .any base t v := hval0
  have hW' := hW
  obtain ⟨p, q, hA0, hV, rfl, hfz, hnd⟩ := hW
  have hA : DataW.TrodAll enc Tryz.prog W 0 (fun _ => true) true Tryz.f6.params.toList args.toList ds p := hA0
  rw [Tryz.params6] at hA hval
  obtain ⟨v0, vs0, d0, ds0, p0, q0, hargs, rfl, rfl, h0, r0⟩ := trodAll_cons hA
  obtain ⟨rfl, rfl, rfl⟩ := trodAll_nil r0
  obtain rfl : args = #[v0] := by cases args; simp_all
  obtain ⟨rfl, rfl⟩ := trodVars_none hV
  obtain ⟨l0, e0, w0⟩ := arg_pairs Tryz.underlying22 Tryz.underlying69 (by kernel_rfl) (by kernel_rfl) rfl rfl (by kernel_rfl) (by kernel_rfl) Tryz.underlying3 Tryz.underlying3 (hval 0 22 v0 rfl rfl) h0 (fun el sp e => sized_slice hsz (j := 0) (t := 22) (e := 69) (by kernel_rfl) (by rw [e]; rfl) Tryz.underlying22)
  exact law_calls laidOut rfl (by kernel_rfl) Tryz.underlying4 (by kernel_rfl) hW' rfl (RepDs.cons e0 (RepDs.nil _)) (Tryz.lawTurns_spec l0 w0)
theorem trainTurns_holds : Rows.TrainTurnsSaid :=
  OpenClaim.holds_of_wide 6 Tryz.f6 rfl rfl rfl rfl rfl rfl rfl ⟨rfl, rfl, rfl, rfl, rfl⟩ rfl rfl rfl rfl rfl (by kernel_rfl) Tryz.func6 (by kernel_rfl)
    (of_decide_eq_true (by kernel_rfl)) (by unfold Func.isWrapper; first | (rw [if_pos (by decide +kernel)]; kernel_rfl) | (rw [if_neg (by decide +kernel)]; exact ⟨rfl, rfl⟩))
    (fun os started H enc _ => lifted_trainTurns os started H enc)
/-- THE CARD -/
theorem trainTurns_card : Rows.TrainTurnsCardSaid :=
  Claim7.holds_tied_plain_at .later [] [.data, .data, .data, .data, .pinned] true (true, "1ee4b9b21c8db02a07689c58f5f9af9f85562696b7cdd2cc47bd291458c80ed2") true
    trainTurns_holds (fun _ h => by cases h) (by kernel_rfl) (fun _ h => by cases h) trainTurns_row_tie rfl ⟨rfl, rfl⟩ (by kernel_rfl) rfl
    (fun f fn hf hfn => by
      obtain rfl : f = 6 := Option.some.inj ((show Tryz.prog.funcNamed Rows.trainTurnsRow.func = some 6 by kernel_rfl).symm.trans hf) |>.symm
      obtain rfl : fn = Tryz.f6 := (Option.some.inj (Tryz.func6.symm.trans hfn)).symm
      exact ⟨by kernel_rfl, fun j t ht => by
        rw [Tryz.params6] at ht
        have hm : t ∈ [22] := by simpa using Array.mem_of_getElem? ht
        have hall : ([22].all fun u => !Tryz.prog.wantsStandIn u) = true := by kernel_rfl
        exact (show Tryz.prog.wantsStandIn t = false by simpa using List.all_eq_true.1 hall t hm)⟩)
    (by kernel_rfl)
#print axioms trainTurns_card
end Go.Proofs.YtnmnccboggljhaaGreatDoor
