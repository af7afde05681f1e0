/- 'ferryman/ferrymanlaw27.StoreNames': WHATEVER THE WORLD: the call returns true. The row, and its card, tied to the program's text. No condition beyond the given statement's own. -/
import Derived.Test.YtackclikljcakaaGreatDoorFit
import Derived.Test.YtackclikljcakaaGreatDoorKa
import Derived.Test.YtackclikljcakaaGreatDoorKb
import Derived.Test.YtackclikljcakaaGreatDoorKc
import Derived.Test.YtackclikljcakaaGreatDoorKd
import Derived.Test.YtackclikljcakaaGreatDoorChecked
import Derived.Test.YtackclikljcakaaGreatDoorCards
import Derived.Test.YtackclikljcakaaGreatDoorTie
import Derived.Handed
import Derived.Lay
import Derived.LaidMore
import Derived.OpenShut
import Derived.SevenTiedAt
namespace Go.Proofs.YtackclikljcakaaGreatDoor
open Go Go.Ab Go.ChangeShapes Go.WideShapes Go.RowKit
set_option maxRecDepth 1000000
theorem ok0 : EntryOk Tryz.prog e0 := entry_ok (fnsM_ok fit fitExt (fun _ h => absurd h (by simp [l0])) 3000) k0
theorem ok1 : EntryOk Tryz.prog e1 := entry_ok (fnsM_ok fit fitExt (fun _ h => absurd h (by simp [l1])) 3000) k1
theorem ok2 : EntryOk Tryz.prog e2 := entry_ok (fnsM_ok fit fitExt (fun _ h => absurd h (by simp [l2])) 3000) k2
theorem ok3 : EntryOk Tryz.prog e3 := entry_ok (fnsM_ok fit fitExt (fun _ h => absurd h (by simp [l3])) 3000) k3
theorem ok4 : EntryOk Tryz.prog e4 := entry_ok (fnsM_ok fit fitExt (fun _ h => absurd h (by simp [l4])) 3000) k4
theorem ok5 : EntryOk Tryz.prog e5 := entry_ok (fnsM_ok fit fitExt (fun _ h => absurd h (by simp [l5])) 3000) k5
theorem ok6 : EntryOk Tryz.prog e6 := entry_ok (fnsM_ok fit fitExt (fun _ h => absurd h (by simp [l6])) 3000) k6
theorem ok7 : EntryOk Tryz.prog e7 := entry_ok (fnsM_ok fit fitExt (fun e h => by
    simp only [l7, List.mem_cons, List.not_mem_nil, or_false] at h
    rcases h with rfl
    · exact ok6) 3000) k7
theorem ok8 : EntryOk Tryz.prog e8 := entry_ok (fnsM_ok fit fitExt (fun e h => by
    simp only [l8, List.mem_cons, List.not_mem_nil, or_false] at h
    rcases h with rfl | rfl | rfl | rfl | rfl | rfl
    · exact ok1
    · exact ok2
    · exact ok3
    · exact ok4
    · exact ok5
    · exact ok7) 3000) k8
theorem ok9 : EntryOk Tryz.prog e9 := entry_ok (fnsM_ok fit fitExt (fun _ h => absurd h (by simp [l9])) 3000) k9
theorem ok10 : EntryOk Tryz.prog e10 := entry_ok (fnsM_ok fit fitExt (fun _ h => absurd h (by simp [l10])) 3000) k10
theorem ok11 : EntryOk Tryz.prog e11 := entry_ok (fnsM_ok fit fitExt (fun e h => by
    simp only [l11, List.mem_cons, List.not_mem_nil, or_false] at h
    rcases h with rfl
    · exact ok10) 3000) k11
theorem ok12 : EntryOk Tryz.prog e12 := entry_ok (fnsM_ok fit fitExt (fun _ h => absurd h (by simp [l12])) 3000) k12
theorem ok13 : EntryOk Tryz.prog e13 := entry_ok (fnsM_ok fit fitExt (fun _ h => absurd h (by simp [l13])) 3000) k13
theorem ok14 : EntryOk Tryz.prog e14 := entry_ok (fnsM_ok fit fitExt (fun e h => by
    simp only [l14, List.mem_cons, List.not_mem_nil, or_false] at h
    rcases h with rfl
    · exact ok13) 3000) k14
theorem ok15 : EntryOk Tryz.prog e15 := entry_ok (fnsM_ok fit fitExt (fun _ h => absurd h (by simp [l15])) 3000) k15
theorem ok16 : EntryOk Tryz.prog e16 := entry_ok (fnsM_ok fit fitExt (fun e h => by
    simp only [l16, List.mem_cons, List.not_mem_nil, or_false] at h
    rcases h with rfl
    · exact ok15) 3000) k16
theorem ok17 : EntryOk Tryz.prog e17 := entry_ok (fnsM_ok fit fitExt (fun _ h => absurd h (by simp [l17])) 3000) k17
theorem ok18 : EntryOk Tryz.prog e18 := entry_ok (fnsM_ok fit fitExt (fun e h => by
    simp only [l18, List.mem_cons, List.not_mem_nil, or_false] at h
    rcases h with rfl
    · exact ok17) 3000) k18
theorem ok19 : EntryOk Tryz.prog e19 := entry_ok (fnsM_ok fit fitExt (fun e h => by
    simp only [l19, List.mem_cons, List.not_mem_nil, or_false] at h
    rcases h with rfl
    · exact ok18) 3000) k19
theorem ok20 : EntryOk Tryz.prog e20 := entry_ok (fnsM_ok fit fitExt (fun _ h => absurd h (by simp [l20])) 3000) k20
theorem ok21 : EntryOk Tryz.prog e21 := entry_ok (fnsM_ok fit fitExt (fun e h => by
    simp only [l21, List.mem_cons, List.not_mem_nil, or_false] at h
    rcases h with rfl | rfl
    · exact ok19
    · exact ok20) 3000) k21
theorem ok22 : EntryOk Tryz.prog e22 := entry_ok (fnsM_ok fit fitExt (fun _ h => absurd h (by simp [l22])) 3000) k22
theorem ok23 : EntryOk Tryz.prog e23 := entry_ok (fnsM_ok fit fitExt (fun _ h => absurd h (by simp [l23])) 3000) k23
theorem ok24 : EntryOk Tryz.prog e24 := entry_ok (fnsM_ok fit fitExt (fun e h => by
    simp only [l24, List.mem_cons, List.not_mem_nil, or_false] at h
    rcases h with rfl
    · exact ok23) 3000) k24
theorem ok25 : EntryOk Tryz.prog e25 := entry_ok (fnsM_ok fit fitExt (fun _ h => absurd h (by simp [l25])) 3000) k25
theorem ok26 : EntryOk Tryz.prog e26 := entry_ok (fnsM_ok fit fitExt (fun _ h => absurd h (by simp [l26])) 3000) k26
theorem ok27 : EntryOk Tryz.prog e27 := entry_ok (fnsM_ok fit fitExt (fun e h => by
    simp only [l27, List.mem_cons, List.not_mem_nil, or_false] at h
    rcases h with rfl | rfl | rfl | rfl | rfl | rfl | rfl | rfl | rfl | rfl | rfl | rfl
    · exact ok0
    · exact ok8
    · exact ok9
    · exact ok11
    · exact ok12
    · exact ok14
    · exact ok16
    · exact ok21
    · exact ok22
    · exact ok24
    · exact ok25
    · exact ok26) 3000) k27
theorem ok28 : EntryOk Tryz.prog e28 := entry_ok (fnsM_ok fit fitExt (fun _ h => absurd h (by simp [l28])) 3000) k28
theorem ok29 : EntryOk Tryz.prog e29 := entry_ok (fnsM_ok fit fitExt (fun _ h => absurd h (by simp [l29])) 3000) k29
theorem ok30 : EntryOk Tryz.prog e30 := entry_ok (fnsM_ok fit fitExt (fun _ h => absurd h (by simp [l30])) 3000) k30
theorem ok31 : EntryOk Tryz.prog e31 := entry_ok (fnsM_ok fit fitExt (fun _ h => absurd h (by simp [l31])) 3000) k31
theorem ok32 : EntryOk Tryz.prog e32 := entry_ok (fnsM_ok fit fitExt (fun _ h => absurd h (by simp [l32])) 3000) k32
theorem ok33 : EntryOk Tryz.prog e33 := entry_ok (fnsM_ok fit fitExt (fun _ h => absurd h (by simp [l33])) 3000) k33
theorem ok34 : EntryOk Tryz.prog e34 := entry_ok (fnsM_ok fit fitExt (fun _ h => absurd h (by simp [l34])) 3000) k34
theorem ok35 : EntryOk Tryz.prog e35 := entry_ok (fnsM_ok fit fitExt (fun _ h => absurd h (by simp [l35])) 3000) k35
theorem ok36 : EntryOk Tryz.prog e36 := entry_ok (fnsM_ok fit fitExt (fun _ h => absurd h (by simp [l36])) 3000) k36
theorem ok37 : EntryOk Tryz.prog e37 := entry_ok (fnsM_ok fit fitExt (fun e h => by
    simp only [l37, List.mem_cons, List.not_mem_nil, or_false] at h
    rcases h with rfl
    · exact ok36) 3000) k37
theorem ok38 : EntryOk Tryz.prog e38 := entry_ok (fnsM_ok fit fitExt (fun _ h => absurd h (by simp [l38])) 3000) k38
theorem ok39 : EntryOk Tryz.prog e39 := entry_ok (fnsM_ok fit fitExt (fun _ h => absurd h (by simp [l39])) 3000) k39
theorem law_calls (W : World) : Calls Tryz.prog 3 #[] W fun e W' => e = .returned (.bool true) ∧ Below W.heap.size W W' :=
  closed_calls (fnsM_ok fit fitExt (fun e h => by
    simp only [l40, List.mem_cons, List.not_mem_nil, or_false] at h
    rcases h with rfl | rfl | rfl | rfl | rfl | rfl | rfl | rfl | rfl | rfl | rfl | rfl
    · exact ok27
    · exact ok28
    · exact ok29
    · exact ok30
    · exact ok31
    · exact ok32
    · exact ok33
    · exact ok34
    · exact ok35
    · exact ok37
    · exact ok38
    · exact ok39) 3000) Tryz.func3 rfl (by kernel_rfl) k40 W
theorem ownKnob : ownKnob Tryz.prog.godebug = none := by kernel_rfl
theorem lifted (os : Os) (started : os.Started) (H : Type) (enc : TypeId × Value → H) :
    ReturnsInHanded {} Tryz.checked os 3 .any (fun w args => (Rows.storeNamesSpec.pre enc Tryz.prog Tryz.f3 [] false w args ∧ laidMetH Tryz.prog Rows.storeNamesRow.laid w) ∧ sizedMet enc Tryz.prog Tryz.f3 (OpenSpec.ofChange Rows.storeNamesSpec) false w args)
      (Rows.storeNamesSpec.post enc Tryz.prog Tryz.f3 false true false false) := by
  refine returnsInHanded_of_change_and (C := Tryz.checked) (X := fun w _ => laidMetH Tryz.prog Rows.storeNamesRow.laid w) (fun _ _ _ hh h => h.of_heap hh) ownKnob started (by kernel_rfl) Tryz.func3
    (ChangeSpec.witness_shaped (enc := enc) (C := Tryz.checked) (os := os) (X := fun w _ => laidMetH Tryz.prog Rows.storeNamesRow.laid w) false (World.laidAll Tryz.prog os Rows.storeNamesRow.laid) #[] 8 (World.laidAll_os _ _ _)
      (World.shaped_of_ZipB (by kernel_rfl) (by kernel_rfl)) (by kernel_rfl) (by kernel_rfl) (by kernel_rfl)
      (by rw [MakeChecks.laidMetH_plain _ _ _ (by kernel_rfl)]; exact laidMet_laidAll _ (by kernel_rfl) (by kernel_rfl))) ?_
  intro W base args ds gs before _ hW _ _ _ _
  obtain ⟨rfl, _⟩ := closed_post (W' := W) (apart := false) (fresh := true) (handsOn := false) Tryz.params3 rfl (show Tryz.f3.resultTypes = #[4] by kernel_rfl) Tryz.underlying4 ⟨rfl, rfl, rfl⟩ (Below.refl _ W) hW
  exact (law_calls W).mono fun e W' ⟨he, hb⟩ => ⟨_, he, (closed_post Tryz.params3 rfl (show Tryz.f3.resultTypes = #[4] by kernel_rfl) Tryz.underlying4 ⟨rfl, rfl, rfl⟩ hb hW).2⟩
set_option maxHeartbeats 4000000 in
theorem closed : joinedFacts Tryz.pinned.checked.prog 3 Tryz.f3 Rows.storeNamesSpec Rows.storeNamesRow = true := by
  unfold joinedFacts
  repeat' (with_reducible refine Bool.and_eq_true_iff.2 ⟨?_, ?_⟩)
  all_goals (as_aux_lemma => kernel_rfl)
theorem storeNames_holds : Rows.StoreNamesSaid :=
  OpenClaim.holds_of_wide 3 Tryz.f3 rfl rfl rfl rfl rfl rfl rfl ⟨rfl, rfl, rfl, rfl, rfl⟩ rfl rfl rfl rfl rfl (by kernel_rfl) Tryz.func3 closed
    (of_decide_eq_true (by kernel_rfl)) (by unfold Func.isWrapper; first | (rw [if_pos (by decide +kernel)]; kernel_rfl) | (rw [if_neg (by decide +kernel)]; exact ⟨rfl, rfl⟩))
    (fun os started H enc _ => lifted os started H enc)
theorem storeNames_card : Rows.StoreNamesCardSaid :=
  Claim7.holds_tied_plain_at .later [] [.data] true (true, "5a157025407eb134dc12017e938295796bf3a72214d8009af1f75f5fe6064aed") true
    storeNames_holds (fun _ h => by cases h) (by kernel_rfl) (fun _ h => by cases h) storeNames_row_tie rfl ⟨rfl, rfl⟩ (by kernel_rfl) rfl
    (fun f fn hf hfn => by
      obtain rfl : f = 3 := Option.some.inj ((show Tryz.prog.funcNamed "ferryman/ferrymanlaw27.StoreNames" = some 3 by kernel_rfl).symm.trans hf) |>.symm
      obtain rfl : fn = Tryz.f3 := (Option.some.inj (Tryz.func3.symm.trans hfn)).symm
      exact ⟨by kernel_rfl, fun j t ht => by
        rw [Tryz.params3] at ht
        simp at ht⟩)
    (not_goes rfl noGo)
#print axioms storeNames_card
end Go.Proofs.YtackclikljcakaaGreatDoor
