/- TrainBetweens: the law answers true at every input and leaves its arguments as they were; no condition but what the card says. -/
import Derived.Test.YtkgkhggcahmiiaaGreatDoorRowB
import Derived.Test.YtkgkhggcahmiiaaGreatDoorLawBtw
import Derived.Test.YtkgkhggcahmiiaaGreatDoorTie
import Derived.Test.YtkgkhggcahmiiaaGreatDoorCards
namespace Go.Proofs.YtkgkhggcahmiiaaGreatDoor
open Go Go.ChangeShapes Go.WideShapes Go.ChangeAt Go.WideMaps Go.WideElems Go.RowKit Go.Lm
set_option maxRecDepth 100000
theorem lifted_trainBetweens (os : Os) (started : os.Started) (H : Type) (enc : TypeId × Value → H) :
    ReturnsInHanded {} Tryz.checked os 5 .any (fun w args => (Rows.trainBetweensSpec.pre enc Tryz.prog Tryz.f5 [] false w args ∧ laidMetH Tryz.prog Rows.trainBetweensRow.laid w) ∧ sizedMet enc Tryz.prog Tryz.f5 (OpenSpec.ofChange Rows.trainBetweensSpec) false w args)
      (Rows.trainBetweensSpec.post enc Tryz.prog Tryz.f5 false true false false) := by
  refine returnsInHanded_of_change_and (C := Tryz.checked) (X := fun w _ => laidMetH Tryz.prog Rows.trainBetweensRow.laid w) (fun _ _ _ hh h => h.of_heap hh) own started (by kernel_rfl) Tryz.func5
    (ChangeSpec.witness_shaped (enc := enc) (C := Tryz.checked) (os := os) (X := fun w _ => laidMetH Tryz.prog Rows.trainBetweensRow.laid w) false (w0 os) #[.slice none 0 0, .agg #[.int .i64 0, .int .i64 0], .agg #[.int .i64 0, .int .i64 0], .int .i64 0] 8 rfl (w0_shaped os _) (by kernel_rfl) (by kernel_rfl) (by kernel_rfl) (w0_laid os _)) ?_
  intro W base args ds gs before hval0 hW _ hsz hL _
  have hval : ∀ (j : Nat) t v, Tryz.f5.params[j]? = some t → args[j]? = some v → Value.okWide Tryz.prog W .any base t v := hval0
  have hW' := hW
  obtain ⟨p, q, hA0, hV, rfl, hfz, hnd⟩ := hW
  have hA : DataW.TrodAll enc Tryz.prog W 0 (fun _ => true) true Tryz.f5.params.toList args.toList ds p := hA0
  rw [Tryz.params5] at hA hval
  obtain ⟨v0, vs0, d0, ds0, p0, q0, hargs, rfl, rfl, h0, r0⟩ := trodAll_cons hA
  obtain ⟨v1, vs1, d1, ds1, p1, q1, rfl, rfl, rfl, h1, r1⟩ := trodAll_cons r0
  obtain ⟨v2, vs2, d2, ds2, p2, q2, rfl, rfl, rfl, h2, r2⟩ := trodAll_cons r1
  obtain ⟨v3, vs3, d3, ds3, p3, q3, rfl, rfl, rfl, h3, r3⟩ := trodAll_cons r2
  obtain ⟨rfl, rfl, rfl⟩ := trodAll_nil r3
  obtain rfl : args = #[v0, v1, v2, v3] := by cases args; simp_all
  obtain ⟨rfl, rfl⟩ := trodVars_none hV
  obtain ⟨l0, e0, w0⟩ := arg_pairs Tryz.underlying40 Tryz.underlying100 (by kernel_rfl) (by kernel_rfl) rfl rfl (by kernel_rfl) (by kernel_rfl) Tryz.underlying3 Tryz.underlying3 (hval 0 40 v0 rfl rfl) h0 (fun el sp e => sized_slice hsz (j := 0) (t := 40) (e := 100) (by kernel_rfl) (by rw [e]; rfl) Tryz.underlying40)
  obtain ⟨n1, m1, e1, w1, u1⟩ := arg_pair Tryz.underlying23 (by kernel_rfl) (by kernel_rfl) Tryz.underlying3 Tryz.underlying3 (hval 1 23 v1 rfl rfl) h1
  obtain ⟨n2, m2, e2, w2, u2⟩ := arg_pair Tryz.underlying23 (by kernel_rfl) (by kernel_rfl) Tryz.underlying3 Tryz.underlying3 (hval 2 23 v2 rfl rfl) h2
  obtain ⟨n3, e3, w3⟩ := arg_int Tryz.underlying3 (hval 3 3 v3 rfl rfl) h3
  exact law_calls laidOut rfl (by kernel_rfl) Tryz.underlying4 (by kernel_rfl) hW' rfl (RepDs.cons e0 (RepDs.cons e1 (RepDs.cons e2 (RepDs.cons e3 (RepDs.nil _))))) (Tryz.lawBetweens_spec l0 n1 m1 n2 m2 n3 w0 w1 u1 w2 u2 w3)
theorem trainBetweens_holds : Rows.TrainBetweensSaid :=
  OpenClaim.holds_of_wide 5 Tryz.f5 rfl rfl rfl rfl rfl rfl rfl ⟨rfl, rfl, rfl, rfl, rfl⟩ rfl rfl rfl rfl rfl (by kernel_rfl) Tryz.func5 (by kernel_rfl)
    (of_decide_eq_true (by kernel_rfl)) (by unfold Func.isWrapper; first | (rw [if_pos (by decide +kernel)]; kernel_rfl) | (rw [if_neg (by decide +kernel)]; exact ⟨rfl, rfl⟩))
    (fun os started H enc _ => lifted_trainBetweens os started H enc)
/-- THE CARD -/
theorem trainBetweens_card : Rows.TrainBetweensCardSaid :=
  Claim7.holds_tied_plain_at .later [] [.data, .data, .data, .data, .pinned] true (true, "92c2d8d4a83377390fc3c885eee39a8edfc0a7aac1d8a50d4179521ae992f15d") true
    trainBetweens_holds (fun _ h => by cases h) (by kernel_rfl) (fun _ h => by cases h) trainBetweens_row_tie rfl ⟨rfl, rfl⟩ (by kernel_rfl) rfl
    (fun f fn hf hfn => by
      obtain rfl : f = 5 := Option.some.inj ((show Tryz.prog.funcNamed Rows.trainBetweensRow.func = some 5 by kernel_rfl).symm.trans hf) |>.symm
      obtain rfl : fn = Tryz.f5 := (Option.some.inj (Tryz.func5.symm.trans hfn)).symm
      exact ⟨by kernel_rfl, fun j t ht => by
        rw [Tryz.params5] at ht
        have hm : t ∈ [40, 23, 23, 3] := by simpa using Array.mem_of_getElem? ht
        have hall : ([40, 23, 23, 3].all fun u => !Tryz.prog.wantsStandIn u) = true := by kernel_rfl
        exact (show Tryz.prog.wantsStandIn t = false by simpa using List.all_eq_true.1 hall t hm)⟩)
    (by kernel_rfl)
#print axioms trainBetweens_card
end Go.Proofs.YtkgkhggcahmiiaaGreatDoor
