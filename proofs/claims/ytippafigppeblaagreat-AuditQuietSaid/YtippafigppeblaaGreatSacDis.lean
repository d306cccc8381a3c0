/- Which direct form a number has, printed by mksh.py. -/
import Derived.Test.YtippafigppeblaaGreatSacS0
import Derived.Test.YtippafigppeblaaGreatSacS1
namespace Go.Sac
set_option linter.unusedVariables false
set_option maxRecDepth 100000
open Go
theorem leafC {f i : Nat} (x d r : R) (h : f = i → x = r) (hd : d = r := by rfl) : (bif Nat.beq f i then x else d) = r := by
  cases q : Nat.beq f i
  · exact hd
  · exact h (by simpa using q)
theorem treeC (c : Bool) (x y r : R) (hx : c = true → x = r) (hy : c = false → y = r) : (bif c then x else y) = r := by
  cases c
  · exact hy rfl
  · exact hx rfl
noncomputable def d4 (N : Nat) (κ : Oracles) (args : List AV) (S : St) : R := match args with | [] => s4 N κ S | _ => runF (Cs N) κ false 4 args S
theorem q4 (N : Nat) (κ : Oracles) (args : List AV) (S : St) : d4 N κ args S = runF (Cs N) κ false 4 args S := by
  unfold d4
  split
  · exact (e4 N κ S).symm
  · rfl
noncomputable def d6 (N : Nat) (κ : Oracles) (args : List AV) (S : St) : R := match args with | [] => s6 N κ S | _ => runF (Cs N) κ false 6 args S
theorem q6 (N : Nat) (κ : Oracles) (args : List AV) (S : St) : d6 N κ args S = runF (Cs N) κ false 6 args S := by
  unfold d6
  split
  · exact (e6 N κ S).symm
  · rfl
noncomputable def d8 (N : Nat) (κ : Oracles) (args : List AV) (S : St) : R := match args with | [v0, v1] => s8 N κ v0 v1 S | _ => runF (Cs N) κ false 8 args S
theorem q8 (N : Nat) (κ : Oracles) (args : List AV) (S : St) : d8 N κ args S = runF (Cs N) κ false 8 args S := by
  unfold d8
  split
  · exact (e8 N κ _ _ S).symm
  · rfl
noncomputable def d12 (N : Nat) (κ : Oracles) (args : List AV) (S : St) : R := match args with | [v0] => s12 N κ v0 S | _ => runF (Cs N) κ false 12 args S
theorem q12 (N : Nat) (κ : Oracles) (args : List AV) (S : St) : d12 N κ args S = runF (Cs N) κ false 12 args S := by
  unfold d12
  split
  · exact (e12 N κ _ S).symm
  · rfl
noncomputable def d14 (N : Nat) (κ : Oracles) (args : List AV) (S : St) : R := match args with | [v0] => s14 N κ v0 S | _ => runF (Cs N) κ false 14 args S
theorem q14 (N : Nat) (κ : Oracles) (args : List AV) (S : St) : d14 N κ args S = runF (Cs N) κ false 14 args S := by
  unfold d14
  split
  · exact (e14 N κ _ S).symm
  · rfl
noncomputable def d16 (N : Nat) (κ : Oracles) (args : List AV) (S : St) : R := match args with | [v0] => s16 N κ v0 S | _ => runF (Cs N) κ false 16 args S
theorem q16 (N : Nat) (κ : Oracles) (args : List AV) (S : St) : d16 N κ args S = runF (Cs N) κ false 16 args S := by
  unfold d16
  split
  · exact (e16 N κ _ S).symm
  · rfl
noncomputable def d17 (N : Nat) (κ : Oracles) (args : List AV) (S : St) : R := match args with | [v0] => s17 N κ v0 S | _ => runF (Cs N) κ false 17 args S
theorem q17 (N : Nat) (κ : Oracles) (args : List AV) (S : St) : d17 N κ args S = runF (Cs N) κ false 17 args S := by
  unfold d17
  split
  · exact (e17 N κ _ S).symm
  · rfl
noncomputable def d18 (N : Nat) (κ : Oracles) (args : List AV) (S : St) : R := match args with | [v0, v1] => s18 N κ v0 v1 S | _ => runF (Cs N) κ false 18 args S
theorem q18 (N : Nat) (κ : Oracles) (args : List AV) (S : St) : d18 N κ args S = runF (Cs N) κ false 18 args S := by
  unfold d18
  split
  · exact (e18 N κ _ _ S).symm
  · rfl
noncomputable def d19 (N : Nat) (κ : Oracles) (args : List AV) (S : St) : R := match args with | [v0] => s19 N κ v0 S | _ => runF (Cs N) κ false 19 args S
theorem q19 (N : Nat) (κ : Oracles) (args : List AV) (S : St) : d19 N κ args S = runF (Cs N) κ false 19 args S := by
  unfold d19
  split
  · exact (e19 N κ _ S).symm
  · rfl
noncomputable def d20 (N : Nat) (κ : Oracles) (args : List AV) (S : St) : R := match args with | [] => s20 N κ S | _ => runF (Cs N) κ false 20 args S
theorem q20 (N : Nat) (κ : Oracles) (args : List AV) (S : St) : d20 N κ args S = runF (Cs N) κ false 20 args S := by
  unfold d20
  split
  · exact (e20 N κ S).symm
  · rfl
noncomputable def d31 (N : Nat) (κ : Oracles) (args : List AV) (S : St) : R := match args with | [v0] => s31 N κ v0 S | _ => runF (Cs N) κ false 31 args S
theorem q31 (N : Nat) (κ : Oracles) (args : List AV) (S : St) : d31 N κ args S = runF (Cs N) κ false 31 args S := by
  unfold d31
  split
  · exact (e31 N κ _ S).symm
  · rfl
noncomputable def d33 (N : Nat) (κ : Oracles) (args : List AV) (S : St) : R := match args with | [v0] => s33 N κ v0 S | _ => runF (Cs N) κ false 33 args S
theorem q33 (N : Nat) (κ : Oracles) (args : List AV) (S : St) : d33 N κ args S = runF (Cs N) κ false 33 args S := by
  unfold d33
  split
  · exact (e33 N κ _ S).symm
  · rfl
noncomputable def d40 (N : Nat) (κ : Oracles) (args : List AV) (S : St) : R := match args with | [v0] => s40 N κ v0 S | _ => runF (Cs N) κ false 40 args S
theorem q40 (N : Nat) (κ : Oracles) (args : List AV) (S : St) : d40 N κ args S = runF (Cs N) κ false 40 args S := by
  unfold d40
  split
  · exact (e40 N κ _ S).symm
  · rfl
noncomputable def d45 (N : Nat) (κ : Oracles) (args : List AV) (S : St) : R := match args with | [v0, v1] => s45 N κ v0 v1 S | _ => runF (Cs N) κ false 45 args S
theorem q45 (N : Nat) (κ : Oracles) (args : List AV) (S : St) : d45 N κ args S = runF (Cs N) κ false 45 args S := by
  unfold d45
  split
  · exact (e45 N κ _ _ S).symm
  · rfl
noncomputable def d47 (N : Nat) (κ : Oracles) (args : List AV) (S : St) : R := match args with | [v0] => s47 N κ v0 S | _ => runF (Cs N) κ false 47 args S
theorem q47 (N : Nat) (κ : Oracles) (args : List AV) (S : St) : d47 N κ args S = runF (Cs N) κ false 47 args S := by
  unfold d47
  split
  · exact (e47 N κ _ S).symm
  · rfl
noncomputable def d48 (N : Nat) (κ : Oracles) (args : List AV) (S : St) : R := match args with | [v0] => s48 N κ v0 S | _ => runF (Cs N) κ false 48 args S
theorem q48 (N : Nat) (κ : Oracles) (args : List AV) (S : St) : d48 N κ args S = runF (Cs N) κ false 48 args S := by
  unfold d48
  split
  · exact (e48 N κ _ S).symm
  · rfl
noncomputable def d53 (N : Nat) (κ : Oracles) (args : List AV) (S : St) : R := match args with | [v0] => s53 N κ v0 S | _ => runF (Cs N) κ false 53 args S
theorem q53 (N : Nat) (κ : Oracles) (args : List AV) (S : St) : d53 N κ args S = runF (Cs N) κ false 53 args S := by
  unfold d53
  split
  · exact (e53 N κ _ S).symm
  · rfl
noncomputable def d54 (N : Nat) (κ : Oracles) (args : List AV) (S : St) : R := match args with | [v0] => s54 N κ v0 S | _ => runF (Cs N) κ false 54 args S
theorem q54 (N : Nat) (κ : Oracles) (args : List AV) (S : St) : d54 N κ args S = runF (Cs N) κ false 54 args S := by
  unfold d54
  split
  · exact (e54 N κ _ S).symm
  · rfl
noncomputable def d55 (N : Nat) (κ : Oracles) (args : List AV) (S : St) : R := match args with | [v0] => s55 N κ v0 S | _ => runF (Cs N) κ false 55 args S
theorem q55 (N : Nat) (κ : Oracles) (args : List AV) (S : St) : d55 N κ args S = runF (Cs N) κ false 55 args S := by
  unfold d55
  split
  · exact (e55 N κ _ S).symm
  · rfl
noncomputable def d56 (N : Nat) (κ : Oracles) (args : List AV) (S : St) : R := match args with | [v0] => s56 N κ v0 S | _ => runF (Cs N) κ false 56 args S
theorem q56 (N : Nat) (κ : Oracles) (args : List AV) (S : St) : d56 N κ args S = runF (Cs N) κ false 56 args S := by
  unfold d56
  split
  · exact (e56 N κ _ S).symm
  · rfl
noncomputable def d57 (N : Nat) (κ : Oracles) (args : List AV) (S : St) : R := match args with | [v0, v1] => s57 N κ v0 v1 S | _ => runF (Cs N) κ false 57 args S
theorem q57 (N : Nat) (κ : Oracles) (args : List AV) (S : St) : d57 N κ args S = runF (Cs N) κ false 57 args S := by
  unfold d57
  split
  · exact (e57 N κ _ _ S).symm
  · rfl
noncomputable def d58 (N : Nat) (κ : Oracles) (args : List AV) (S : St) : R := match args with | [v0] => s58 N κ v0 S | _ => runF (Cs N) κ false 58 args S
theorem q58 (N : Nat) (κ : Oracles) (args : List AV) (S : St) : d58 N κ args S = runF (Cs N) κ false 58 args S := by
  unfold d58
  split
  · exact (e58 N κ _ S).symm
  · rfl
noncomputable def d59 (N : Nat) (κ : Oracles) (args : List AV) (S : St) : R := match args with | [v0, v1] => s59 N κ v0 v1 S | _ => runF (Cs N) κ false 59 args S
theorem q59 (N : Nat) (κ : Oracles) (args : List AV) (S : St) : d59 N κ args S = runF (Cs N) κ false 59 args S := by
  unfold d59
  split
  · exact (e59 N κ _ _ S).symm
  · rfl
noncomputable def d62 (N : Nat) (κ : Oracles) (args : List AV) (S : St) : R := match args with | [v0, v1] => s62 N κ v0 v1 S | _ => runF (Cs N) κ false 62 args S
theorem q62 (N : Nat) (κ : Oracles) (args : List AV) (S : St) : d62 N κ args S = runF (Cs N) κ false 62 args S := by
  unfold d62
  split
  · exact (e62 N κ _ _ S).symm
  · rfl
noncomputable def d63 (N : Nat) (κ : Oracles) (args : List AV) (S : St) : R := match args with | [v0, v1] => s63 N κ v0 v1 S | _ => runF (Cs N) κ false 63 args S
theorem q63 (N : Nat) (κ : Oracles) (args : List AV) (S : St) : d63 N κ args S = runF (Cs N) κ false 63 args S := by
  unfold d63
  split
  · exact (e63 N κ _ _ S).symm
  · rfl
noncomputable def d65 (N : Nat) (κ : Oracles) (args : List AV) (S : St) : R := match args with | [] => s65 N κ S | _ => runF (Cs N) κ false 65 args S
theorem q65 (N : Nat) (κ : Oracles) (args : List AV) (S : St) : d65 N κ args S = runF (Cs N) κ false 65 args S := by
  unfold d65
  split
  · exact (e65 N κ S).symm
  · rfl
noncomputable def d75 (N : Nat) (κ : Oracles) (args : List AV) (S : St) : R := match args with | [v0] => s75 N κ v0 S | _ => runF (Cs N) κ false 75 args S
theorem q75 (N : Nat) (κ : Oracles) (args : List AV) (S : St) : d75 N κ args S = runF (Cs N) κ false 75 args S := by
  unfold d75
  split
  · exact (e75 N κ _ S).symm
  · rfl
noncomputable def d76 (N : Nat) (κ : Oracles) (args : List AV) (S : St) : R := match args with | [v0] => s76 N κ v0 S | _ => runF (Cs N) κ false 76 args S
theorem q76 (N : Nat) (κ : Oracles) (args : List AV) (S : St) : d76 N κ args S = runF (Cs N) κ false 76 args S := by
  unfold d76
  split
  · exact (e76 N κ _ S).symm
  · rfl
noncomputable def d77 (N : Nat) (κ : Oracles) (args : List AV) (S : St) : R := match args with | [v0] => s77 N κ v0 S | _ => runF (Cs N) κ false 77 args S
theorem q77 (N : Nat) (κ : Oracles) (args : List AV) (S : St) : d77 N κ args S = runF (Cs N) κ false 77 args S := by
  unfold d77
  split
  · exact (e77 N κ _ S).symm
  · rfl
noncomputable def d78 (N : Nat) (κ : Oracles) (args : List AV) (S : St) : R := match args with | [v0] => s78 N κ v0 S | _ => runF (Cs N) κ false 78 args S
theorem q78 (N : Nat) (κ : Oracles) (args : List AV) (S : St) : d78 N κ args S = runF (Cs N) κ false 78 args S := by
  unfold d78
  split
  · exact (e78 N κ _ S).symm
  · rfl
noncomputable def d79 (N : Nat) (κ : Oracles) (args : List AV) (S : St) : R := match args with | [v0, v1, v2] => s79 N κ v0 v1 v2 S | _ => runF (Cs N) κ false 79 args S
theorem q79 (N : Nat) (κ : Oracles) (args : List AV) (S : St) : d79 N κ args S = runF (Cs N) κ false 79 args S := by
  unfold d79
  split
  · exact (e79 N κ _ _ _ S).symm
  · rfl
noncomputable def d80 (N : Nat) (κ : Oracles) (args : List AV) (S : St) : R := match args with | [v0] => s80 N κ v0 S | _ => runF (Cs N) κ false 80 args S
theorem q80 (N : Nat) (κ : Oracles) (args : List AV) (S : St) : d80 N κ args S = runF (Cs N) κ false 80 args S := by
  unfold d80
  split
  · exact (e80 N κ _ S).symm
  · rfl
noncomputable def d81 (N : Nat) (κ : Oracles) (args : List AV) (S : St) : R := match args with | [v0] => s81 N κ v0 S | _ => runF (Cs N) κ false 81 args S
theorem q81 (N : Nat) (κ : Oracles) (args : List AV) (S : St) : d81 N κ args S = runF (Cs N) κ false 81 args S := by
  unfold d81
  split
  · exact (e81 N κ _ S).symm
  · rfl
noncomputable def d82 (N : Nat) (κ : Oracles) (args : List AV) (S : St) : R := match args with | [v0] => s82 N κ v0 S | _ => runF (Cs N) κ false 82 args S
theorem q82 (N : Nat) (κ : Oracles) (args : List AV) (S : St) : d82 N κ args S = runF (Cs N) κ false 82 args S := by
  unfold d82
  split
  · exact (e82 N κ _ S).symm
  · rfl
noncomputable def d83 (N : Nat) (κ : Oracles) (args : List AV) (S : St) : R := match args with | [v0] => s83 N κ v0 S | _ => runF (Cs N) κ false 83 args S
theorem q83 (N : Nat) (κ : Oracles) (args : List AV) (S : St) : d83 N κ args S = runF (Cs N) κ false 83 args S := by
  unfold d83
  split
  · exact (e83 N κ _ S).symm
  · rfl
noncomputable def d84 (N : Nat) (κ : Oracles) (args : List AV) (S : St) : R := match args with | [v0] => s84 N κ v0 S | _ => runF (Cs N) κ false 84 args S
theorem q84 (N : Nat) (κ : Oracles) (args : List AV) (S : St) : d84 N κ args S = runF (Cs N) κ false 84 args S := by
  unfold d84
  split
  · exact (e84 N κ _ S).symm
  · rfl
noncomputable def d85 (N : Nat) (κ : Oracles) (args : List AV) (S : St) : R := match args with | [v0] => s85 N κ v0 S | _ => runF (Cs N) κ false 85 args S
theorem q85 (N : Nat) (κ : Oracles) (args : List AV) (S : St) : d85 N κ args S = runF (Cs N) κ false 85 args S := by
  unfold d85
  split
  · exact (e85 N κ _ S).symm
  · rfl
noncomputable def d86 (N : Nat) (κ : Oracles) (args : List AV) (S : St) : R := match args with | [v0] => s86 N κ v0 S | _ => runF (Cs N) κ false 86 args S
theorem q86 (N : Nat) (κ : Oracles) (args : List AV) (S : St) : d86 N κ args S = runF (Cs N) κ false 86 args S := by
  unfold d86
  split
  · exact (e86 N κ _ S).symm
  · rfl
noncomputable def d87 (N : Nat) (κ : Oracles) (args : List AV) (S : St) : R := match args with | [v0] => s87 N κ v0 S | _ => runF (Cs N) κ false 87 args S
theorem q87 (N : Nat) (κ : Oracles) (args : List AV) (S : St) : d87 N κ args S = runF (Cs N) κ false 87 args S := by
  unfold d87
  split
  · exact (e87 N κ _ S).symm
  · rfl
noncomputable def d91 (N : Nat) (κ : Oracles) (args : List AV) (S : St) : R := match args with | [v0] => s91 N κ v0 S | _ => runF (Cs N) κ false 91 args S
theorem q91 (N : Nat) (κ : Oracles) (args : List AV) (S : St) : d91 N κ args S = runF (Cs N) κ false 91 args S := by
  unfold d91
  split
  · exact (e91 N κ _ S).symm
  · rfl
noncomputable def d95 (N : Nat) (κ : Oracles) (args : List AV) (S : St) : R := match args with | [v0] => s95 N κ v0 S | _ => runF (Cs N) κ false 95 args S
theorem q95 (N : Nat) (κ : Oracles) (args : List AV) (S : St) : d95 N κ args S = runF (Cs N) κ false 95 args S := by
  unfold d95
  split
  · exact (e95 N κ _ S).symm
  · rfl
noncomputable def d102 (N : Nat) (κ : Oracles) (args : List AV) (S : St) : R := match args with | [v0, v1] => s102 N κ v0 v1 S | _ => runF (Cs N) κ false 102 args S
theorem q102 (N : Nat) (κ : Oracles) (args : List AV) (S : St) : d102 N κ args S = runF (Cs N) κ false 102 args S := by
  unfold d102
  split
  · exact (e102 N κ _ _ S).symm
  · rfl
noncomputable def d103 (N : Nat) (κ : Oracles) (args : List AV) (S : St) : R := match args with | [v0] => s103 N κ v0 S | _ => runF (Cs N) κ false 103 args S
theorem q103 (N : Nat) (κ : Oracles) (args : List AV) (S : St) : d103 N κ args S = runF (Cs N) κ false 103 args S := by
  unfold d103
  split
  · exact (e103 N κ _ S).symm
  · rfl
noncomputable def d104 (N : Nat) (κ : Oracles) (args : List AV) (S : St) : R := match args with | [v0, v1, v2] => s104 N κ v0 v1 v2 S | _ => runF (Cs N) κ false 104 args S
theorem q104 (N : Nat) (κ : Oracles) (args : List AV) (S : St) : d104 N κ args S = runF (Cs N) κ false 104 args S := by
  unfold d104
  split
  · exact (e104 N κ _ _ _ S).symm
  · rfl
noncomputable def d105 (N : Nat) (κ : Oracles) (args : List AV) (S : St) : R := match args with | [v0] => s105 N κ v0 S | _ => runF (Cs N) κ false 105 args S
theorem q105 (N : Nat) (κ : Oracles) (args : List AV) (S : St) : d105 N κ args S = runF (Cs N) κ false 105 args S := by
  unfold d105
  split
  · exact (e105 N κ _ S).symm
  · rfl
noncomputable def d106 (N : Nat) (κ : Oracles) (args : List AV) (S : St) : R := match args with | [v0] => s106 N κ v0 S | _ => runF (Cs N) κ false 106 args S
theorem q106 (N : Nat) (κ : Oracles) (args : List AV) (S : St) : d106 N κ args S = runF (Cs N) κ false 106 args S := by
  unfold d106
  split
  · exact (e106 N κ _ S).symm
  · rfl
noncomputable def d107 (N : Nat) (κ : Oracles) (args : List AV) (S : St) : R := match args with | [v0, v1, v2, v3] => s107 N κ v0 v1 v2 v3 S | _ => runF (Cs N) κ false 107 args S
theorem q107 (N : Nat) (κ : Oracles) (args : List AV) (S : St) : d107 N κ args S = runF (Cs N) κ false 107 args S := by
  unfold d107
  split
  · exact (e107 N κ _ _ _ _ S).symm
  · rfl
noncomputable def d108 (N : Nat) (κ : Oracles) (args : List AV) (S : St) : R := match args with | [v0] => s108 N κ v0 S | _ => runF (Cs N) κ false 108 args S
theorem q108 (N : Nat) (κ : Oracles) (args : List AV) (S : St) : d108 N κ args S = runF (Cs N) κ false 108 args S := by
  unfold d108
  split
  · exact (e108 N κ _ S).symm
  · rfl
noncomputable def d110 (N : Nat) (κ : Oracles) (args : List AV) (S : St) : R := match args with | [] => s110 N κ S | _ => runF (Cs N) κ false 110 args S
theorem q110 (N : Nat) (κ : Oracles) (args : List AV) (S : St) : d110 N κ args S = runF (Cs N) κ false 110 args S := by
  unfold d110
  split
  · exact (e110 N κ S).symm
  · rfl
noncomputable def d119 (N : Nat) (κ : Oracles) (args : List AV) (S : St) : R := match args with | [] => s119 N κ S | _ => runF (Cs N) κ false 119 args S
theorem q119 (N : Nat) (κ : Oracles) (args : List AV) (S : St) : d119 N κ args S = runF (Cs N) κ false 119 args S := by
  unfold d119
  split
  · exact (e119 N κ S).symm
  · rfl
noncomputable def d120 (N : Nat) (κ : Oracles) (args : List AV) (S : St) : R := match args with | [v0, v1] => s120 N κ v0 v1 S | _ => runF (Cs N) κ false 120 args S
theorem q120 (N : Nat) (κ : Oracles) (args : List AV) (S : St) : d120 N κ args S = runF (Cs N) κ false 120 args S := by
  unfold d120
  split
  · exact (e120 N κ _ _ S).symm
  · rfl
noncomputable def d121 (N : Nat) (κ : Oracles) (args : List AV) (S : St) : R := match args with | [v0] => s121 N κ v0 S | _ => runF (Cs N) κ false 121 args S
theorem q121 (N : Nat) (κ : Oracles) (args : List AV) (S : St) : d121 N κ args S = runF (Cs N) κ false 121 args S := by
  unfold d121
  split
  · exact (e121 N κ _ S).symm
  · rfl
noncomputable def d122 (N : Nat) (κ : Oracles) (args : List AV) (S : St) : R := match args with | [v0] => s122 N κ v0 S | _ => runF (Cs N) κ false 122 args S
theorem q122 (N : Nat) (κ : Oracles) (args : List AV) (S : St) : d122 N κ args S = runF (Cs N) κ false 122 args S := by
  unfold d122
  split
  · exact (e122 N κ _ S).symm
  · rfl
noncomputable def d123 (N : Nat) (κ : Oracles) (args : List AV) (S : St) : R := match args with | [v0] => s123 N κ v0 S | _ => runF (Cs N) κ false 123 args S
theorem q123 (N : Nat) (κ : Oracles) (args : List AV) (S : St) : d123 N κ args S = runF (Cs N) κ false 123 args S := by
  unfold d123
  split
  · exact (e123 N κ _ S).symm
  · rfl
noncomputable def d126 (N : Nat) (κ : Oracles) (args : List AV) (S : St) : R := match args with | [v0] => s126 N κ v0 S | _ => runF (Cs N) κ false 126 args S
theorem q126 (N : Nat) (κ : Oracles) (args : List AV) (S : St) : d126 N κ args S = runF (Cs N) κ false 126 args S := by
  unfold d126
  split
  · exact (e126 N κ _ S).symm
  · rfl
noncomputable def d129 (N : Nat) (κ : Oracles) (args : List AV) (S : St) : R := match args with | [v0] => s129 N κ v0 S | _ => runF (Cs N) κ false 129 args S
theorem q129 (N : Nat) (κ : Oracles) (args : List AV) (S : St) : d129 N κ args S = runF (Cs N) κ false 129 args S := by
  unfold d129
  split
  · exact (e129 N κ _ S).symm
  · rfl
noncomputable def d130 (N : Nat) (κ : Oracles) (args : List AV) (S : St) : R := match args with | [v0, v1] => s130 N κ v0 v1 S | _ => runF (Cs N) κ false 130 args S
theorem q130 (N : Nat) (κ : Oracles) (args : List AV) (S : St) : d130 N κ args S = runF (Cs N) κ false 130 args S := by
  unfold d130
  split
  · exact (e130 N κ _ _ S).symm
  · rfl
noncomputable def d131 (N : Nat) (κ : Oracles) (args : List AV) (S : St) : R := match args with | [v0, v1] => s131 N κ v0 v1 S | _ => runF (Cs N) κ false 131 args S
theorem q131 (N : Nat) (κ : Oracles) (args : List AV) (S : St) : d131 N κ args S = runF (Cs N) κ false 131 args S := by
  unfold d131
  split
  · exact (e131 N κ _ _ S).symm
  · rfl
noncomputable def d136 (N : Nat) (κ : Oracles) (args : List AV) (S : St) : R := match args with | [v0] => s136 N κ v0 S | _ => runF (Cs N) κ false 136 args S
theorem q136 (N : Nat) (κ : Oracles) (args : List AV) (S : St) : d136 N κ args S = runF (Cs N) κ false 136 args S := by
  unfold d136
  split
  · exact (e136 N κ _ S).symm
  · rfl
noncomputable def d137 (N : Nat) (κ : Oracles) (args : List AV) (S : St) : R := match args with | [v0, v1] => s137 N κ v0 v1 S | _ => runF (Cs N) κ false 137 args S
theorem q137 (N : Nat) (κ : Oracles) (args : List AV) (S : St) : d137 N κ args S = runF (Cs N) κ false 137 args S := by
  unfold d137
  split
  · exact (e137 N κ _ _ S).symm
  · rfl
noncomputable def d158 (N : Nat) (κ : Oracles) (args : List AV) (S : St) : R := match args with | [v0] => s158 N κ v0 S | _ => runF (Cs N) κ false 158 args S
theorem q158 (N : Nat) (κ : Oracles) (args : List AV) (S : St) : d158 N κ args S = runF (Cs N) κ false 158 args S := by
  unfold d158
  split
  · exact (e158 N κ _ S).symm
  · rfl
noncomputable def d160 (N : Nat) (κ : Oracles) (args : List AV) (S : St) : R := match args with | [v0, v1] => s160 N κ v0 v1 S | _ => runF (Cs N) κ false 160 args S
theorem q160 (N : Nat) (κ : Oracles) (args : List AV) (S : St) : d160 N κ args S = runF (Cs N) κ false 160 args S := by
  unfold d160
  split
  · exact (e160 N κ _ _ S).symm
  · rfl
noncomputable def d161 (N : Nat) (κ : Oracles) (args : List AV) (S : St) : R := match args with | [v0, v1] => s161 N κ v0 v1 S | _ => runF (Cs N) κ false 161 args S
theorem q161 (N : Nat) (κ : Oracles) (args : List AV) (S : St) : d161 N κ args S = runF (Cs N) κ false 161 args S := by
  unfold d161
  split
  · exact (e161 N κ _ _ S).symm
  · rfl
noncomputable def d162 (N : Nat) (κ : Oracles) (args : List AV) (S : St) : R := match args with | [v0, v1, v2] => s162 N κ v0 v1 v2 S | _ => runF (Cs N) κ false 162 args S
theorem q162 (N : Nat) (κ : Oracles) (args : List AV) (S : St) : d162 N κ args S = runF (Cs N) κ false 162 args S := by
  unfold d162
  split
  · exact (e162 N κ _ _ _ S).symm
  · rfl
noncomputable def d164 (N : Nat) (κ : Oracles) (args : List AV) (S : St) : R := match args with | [v0, v1] => s164 N κ v0 v1 S | _ => runF (Cs N) κ false 164 args S
theorem q164 (N : Nat) (κ : Oracles) (args : List AV) (S : St) : d164 N κ args S = runF (Cs N) κ false 164 args S := by
  unfold d164
  split
  · exact (e164 N κ _ _ S).symm
  · rfl
noncomputable def d165 (N : Nat) (κ : Oracles) (args : List AV) (S : St) : R := match args with | [] => s165 N κ S | _ => runF (Cs N) κ false 165 args S
theorem q165 (N : Nat) (κ : Oracles) (args : List AV) (S : St) : d165 N κ args S = runF (Cs N) κ false 165 args S := by
  unfold d165
  split
  · exact (e165 N κ S).symm
  · rfl
noncomputable def d169 (N : Nat) (κ : Oracles) (args : List AV) (S : St) : R := match args with | [v0] => s169 N κ v0 S | _ => runF (Cs N) κ false 169 args S
theorem q169 (N : Nat) (κ : Oracles) (args : List AV) (S : St) : d169 N κ args S = runF (Cs N) κ false 169 args S := by
  unfold d169
  split
  · exact (e169 N κ _ S).symm
  · rfl
noncomputable def d171 (N : Nat) (κ : Oracles) (args : List AV) (S : St) : R := match args with | [v0] => s171 N κ v0 S | _ => runF (Cs N) κ false 171 args S
theorem q171 (N : Nat) (κ : Oracles) (args : List AV) (S : St) : d171 N κ args S = runF (Cs N) κ false 171 args S := by
  unfold d171
  split
  · exact (e171 N κ _ S).symm
  · rfl
noncomputable def d172 (N : Nat) (κ : Oracles) (args : List AV) (S : St) : R := match args with | [v0, v1, v2] => s172 N κ v0 v1 v2 S | _ => runF (Cs N) κ false 172 args S
theorem q172 (N : Nat) (κ : Oracles) (args : List AV) (S : St) : d172 N κ args S = runF (Cs N) κ false 172 args S := by
  unfold d172
  split
  · exact (e172 N κ _ _ _ S).symm
  · rfl
noncomputable def d173 (N : Nat) (κ : Oracles) (args : List AV) (S : St) : R := match args with | [v0, v1] => s173 N κ v0 v1 S | _ => runF (Cs N) κ false 173 args S
theorem q173 (N : Nat) (κ : Oracles) (args : List AV) (S : St) : d173 N κ args S = runF (Cs N) κ false 173 args S := by
  unfold d173
  split
  · exact (e173 N κ _ _ S).symm
  · rfl
noncomputable def d200 (N : Nat) (κ : Oracles) (args : List AV) (S : St) : R := match args with | [v0] => s200 N κ v0 S | _ => runF (Cs N) κ false 200 args S
theorem q200 (N : Nat) (κ : Oracles) (args : List AV) (S : St) : d200 N κ args S = runF (Cs N) κ false 200 args S := by
  unfold d200
  split
  · exact (e200 N κ _ S).symm
  · rfl
noncomputable def d207 (N : Nat) (κ : Oracles) (args : List AV) (S : St) : R := match args with | [v0] => s207 N κ v0 S | _ => runF (Cs N) κ false 207 args S
theorem q207 (N : Nat) (κ : Oracles) (args : List AV) (S : St) : d207 N κ args S = runF (Cs N) κ false 207 args S := by
  unfold d207
  split
  · exact (e207 N κ _ S).symm
  · rfl
noncomputable def d208 (N : Nat) (κ : Oracles) (args : List AV) (S : St) : R := match args with | [v0, v1] => s208 N κ v0 v1 S | _ => runF (Cs N) κ false 208 args S
theorem q208 (N : Nat) (κ : Oracles) (args : List AV) (S : St) : d208 N κ args S = runF (Cs N) κ false 208 args S := by
  unfold d208
  split
  · exact (e208 N κ _ _ S).symm
  · rfl
noncomputable def d211 (N : Nat) (κ : Oracles) (args : List AV) (S : St) : R := match args with | [] => s211 N κ S | _ => runF (Cs N) κ false 211 args S
theorem q211 (N : Nat) (κ : Oracles) (args : List AV) (S : St) : d211 N κ args S = runF (Cs N) κ false 211 args S := by
  unfold d211
  split
  · exact (e211 N κ S).symm
  · rfl
noncomputable def d214 (N : Nat) (κ : Oracles) (args : List AV) (S : St) : R := match args with | [v0] => s214 N κ v0 S | _ => runF (Cs N) κ false 214 args S
theorem q214 (N : Nat) (κ : Oracles) (args : List AV) (S : St) : d214 N κ args S = runF (Cs N) κ false 214 args S := by
  unfold d214
  split
  · exact (e214 N κ _ S).symm
  · rfl
noncomputable def d215 (N : Nat) (κ : Oracles) (args : List AV) (S : St) : R := match args with | [v0] => s215 N κ v0 S | _ => runF (Cs N) κ false 215 args S
theorem q215 (N : Nat) (κ : Oracles) (args : List AV) (S : St) : d215 N κ args S = runF (Cs N) κ false 215 args S := by
  unfold d215
  split
  · exact (e215 N κ _ S).symm
  · rfl
noncomputable def d216 (N : Nat) (κ : Oracles) (args : List AV) (S : St) : R := match args with | [v0] => s216 N κ v0 S | _ => runF (Cs N) κ false 216 args S
theorem q216 (N : Nat) (κ : Oracles) (args : List AV) (S : St) : d216 N κ args S = runF (Cs N) κ false 216 args S := by
  unfold d216
  split
  · exact (e216 N κ _ S).symm
  · rfl
noncomputable def d217 (N : Nat) (κ : Oracles) (args : List AV) (S : St) : R := match args with | [v0, v1] => s217 N κ v0 v1 S | _ => runF (Cs N) κ false 217 args S
theorem q217 (N : Nat) (κ : Oracles) (args : List AV) (S : St) : d217 N κ args S = runF (Cs N) κ false 217 args S := by
  unfold d217
  split
  · exact (e217 N κ _ _ S).symm
  · rfl
noncomputable def d219 (N : Nat) (κ : Oracles) (args : List AV) (S : St) : R := match args with | [v0, v1] => s219 N κ v0 v1 S | _ => runF (Cs N) κ false 219 args S
theorem q219 (N : Nat) (κ : Oracles) (args : List AV) (S : St) : d219 N κ args S = runF (Cs N) κ false 219 args S := by
  unfold d219
  split
  · exact (e219 N κ _ _ S).symm
  · rfl
noncomputable def d225 (N : Nat) (κ : Oracles) (args : List AV) (S : St) : R := match args with | [v0, v1] => s225 N κ v0 v1 S | _ => runF (Cs N) κ false 225 args S
theorem q225 (N : Nat) (κ : Oracles) (args : List AV) (S : St) : d225 N κ args S = runF (Cs N) κ false 225 args S := by
  unfold d225
  split
  · exact (e225 N κ _ _ S).symm
  · rfl
noncomputable def d226 (N : Nat) (κ : Oracles) (args : List AV) (S : St) : R := match args with | [v0] => s226 N κ v0 S | _ => runF (Cs N) κ false 226 args S
theorem q226 (N : Nat) (κ : Oracles) (args : List AV) (S : St) : d226 N κ args S = runF (Cs N) κ false 226 args S := by
  unfold d226
  split
  · exact (e226 N κ _ S).symm
  · rfl
noncomputable def d227 (N : Nat) (κ : Oracles) (args : List AV) (S : St) : R := match args with | [v0, v1, v2] => s227 N κ v0 v1 v2 S | _ => runF (Cs N) κ false 227 args S
theorem q227 (N : Nat) (κ : Oracles) (args : List AV) (S : St) : d227 N κ args S = runF (Cs N) κ false 227 args S := by
  unfold d227
  split
  · exact (e227 N κ _ _ _ S).symm
  · rfl
noncomputable def d229 (N : Nat) (κ : Oracles) (args : List AV) (S : St) : R := match args with | [v0] => s229 N κ v0 S | _ => runF (Cs N) κ false 229 args S
theorem q229 (N : Nat) (κ : Oracles) (args : List AV) (S : St) : d229 N κ args S = runF (Cs N) κ false 229 args S := by
  unfold d229
  split
  · exact (e229 N κ _ S).symm
  · rfl
noncomputable def d251 (N : Nat) (κ : Oracles) (args : List AV) (S : St) : R := match args with | [v0] => s251 N κ v0 S | _ => runF (Cs N) κ false 251 args S
theorem q251 (N : Nat) (κ : Oracles) (args : List AV) (S : St) : d251 N κ args S = runF (Cs N) κ false 251 args S := by
  unfold d251
  split
  · exact (e251 N κ _ S).symm
  · rfl
noncomputable def d254 (N : Nat) (κ : Oracles) (args : List AV) (S : St) : R := match args with | [v0, v1, v2] => s254 N κ v0 v1 v2 S | _ => runF (Cs N) κ false 254 args S
theorem q254 (N : Nat) (κ : Oracles) (args : List AV) (S : St) : d254 N κ args S = runF (Cs N) κ false 254 args S := by
  unfold d254
  split
  · exact (e254 N κ _ _ _ S).symm
  · rfl
noncomputable def d275 (N : Nat) (κ : Oracles) (args : List AV) (S : St) : R := match args with | [v0] => s275 N κ v0 S | _ => runF (Cs N) κ false 275 args S
theorem q275 (N : Nat) (κ : Oracles) (args : List AV) (S : St) : d275 N κ args S = runF (Cs N) κ false 275 args S := by
  unfold d275
  split
  · exact (e275 N κ _ S).symm
  · rfl
noncomputable def d277 (N : Nat) (κ : Oracles) (args : List AV) (S : St) : R := match args with | [v0] => s277 N κ v0 S | _ => runF (Cs N) κ false 277 args S
theorem q277 (N : Nat) (κ : Oracles) (args : List AV) (S : St) : d277 N κ args S = runF (Cs N) κ false 277 args S := by
  unfold d277
  split
  · exact (e277 N κ _ S).symm
  · rfl
noncomputable def d278 (N : Nat) (κ : Oracles) (args : List AV) (S : St) : R := match args with | [v0, v1] => s278 N κ v0 v1 S | _ => runF (Cs N) κ false 278 args S
theorem q278 (N : Nat) (κ : Oracles) (args : List AV) (S : St) : d278 N κ args S = runF (Cs N) κ false 278 args S := by
  unfold d278
  split
  · exact (e278 N κ _ _ S).symm
  · rfl
noncomputable def d279 (N : Nat) (κ : Oracles) (args : List AV) (S : St) : R := match args with | [v0, v1] => s279 N κ v0 v1 S | _ => runF (Cs N) κ false 279 args S
theorem q279 (N : Nat) (κ : Oracles) (args : List AV) (S : St) : d279 N κ args S = runF (Cs N) κ false 279 args S := by
  unfold d279
  split
  · exact (e279 N κ _ _ S).symm
  · rfl
noncomputable def d281 (N : Nat) (κ : Oracles) (args : List AV) (S : St) : R := match args with | [v0, v1, v2, v3, v4] => s281 N κ v0 v1 v2 v3 v4 S | _ => runF (Cs N) κ false 281 args S
theorem q281 (N : Nat) (κ : Oracles) (args : List AV) (S : St) : d281 N κ args S = runF (Cs N) κ false 281 args S := by
  unfold d281
  split
  · exact (e281 N κ _ _ _ _ _ S).symm
  · rfl
noncomputable def d282 (N : Nat) (κ : Oracles) (args : List AV) (S : St) : R := match args with | [v0] => s282 N κ v0 S | _ => runF (Cs N) κ false 282 args S
theorem q282 (N : Nat) (κ : Oracles) (args : List AV) (S : St) : d282 N κ args S = runF (Cs N) κ false 282 args S := by
  unfold d282
  split
  · exact (e282 N κ _ S).symm
  · rfl
noncomputable def d288 (N : Nat) (κ : Oracles) (args : List AV) (S : St) : R := match args with | [v0, v1, v2] => s288 N κ v0 v1 v2 S | _ => runF (Cs N) κ false 288 args S
theorem q288 (N : Nat) (κ : Oracles) (args : List AV) (S : St) : d288 N κ args S = runF (Cs N) κ false 288 args S := by
  unfold d288
  split
  · exact (e288 N κ _ _ _ S).symm
  · rfl
noncomputable def d291 (N : Nat) (κ : Oracles) (args : List AV) (S : St) : R := match args with | [v0, v1, v2] => s291 N κ v0 v1 v2 S | _ => runF (Cs N) κ false 291 args S
theorem q291 (N : Nat) (κ : Oracles) (args : List AV) (S : St) : d291 N κ args S = runF (Cs N) κ false 291 args S := by
  unfold d291
  split
  · exact (e291 N κ _ _ _ S).symm
  · rfl
noncomputable def d292 (N : Nat) (κ : Oracles) (args : List AV) (S : St) : R := match args with | [v0] => s292 N κ v0 S | _ => runF (Cs N) κ false 292 args S
theorem q292 (N : Nat) (κ : Oracles) (args : List AV) (S : St) : d292 N κ args S = runF (Cs N) κ false 292 args S := by
  unfold d292
  split
  · exact (e292 N κ _ S).symm
  · rfl
noncomputable def d303 (N : Nat) (κ : Oracles) (args : List AV) (S : St) : R := match args with | [v0, v1] => s303 N κ v0 v1 S | _ => runF (Cs N) κ false 303 args S
theorem q303 (N : Nat) (κ : Oracles) (args : List AV) (S : St) : d303 N κ args S = runF (Cs N) κ false 303 args S := by
  unfold d303
  split
  · exact (e303 N κ _ _ S).symm
  · rfl
noncomputable def d304 (N : Nat) (κ : Oracles) (args : List AV) (S : St) : R := match args with | [v0, v1, v2, v3] => s304 N κ v0 v1 v2 v3 S | _ => runF (Cs N) κ false 304 args S
theorem q304 (N : Nat) (κ : Oracles) (args : List AV) (S : St) : d304 N κ args S = runF (Cs N) κ false 304 args S := by
  unfold d304
  split
  · exact (e304 N κ _ _ _ _ S).symm
  · rfl
noncomputable def d305 (N : Nat) (κ : Oracles) (args : List AV) (S : St) : R := match args with | [v0, v1] => s305 N κ v0 v1 S | _ => runF (Cs N) κ false 305 args S
theorem q305 (N : Nat) (κ : Oracles) (args : List AV) (S : St) : d305 N κ args S = runF (Cs N) κ false 305 args S := by
  unfold d305
  split
  · exact (e305 N κ _ _ S).symm
  · rfl
noncomputable def d331 (N : Nat) (κ : Oracles) (args : List AV) (S : St) : R := match args with | [v0] => s331 N κ v0 S | _ => runF (Cs N) κ false 331 args S
theorem q331 (N : Nat) (κ : Oracles) (args : List AV) (S : St) : d331 N κ args S = runF (Cs N) κ false 331 args S := by
  unfold d331
  split
  · exact (e331 N κ _ S).symm
  · rfl
noncomputable def d348 (N : Nat) (κ : Oracles) (args : List AV) (S : St) : R := match args with | [v0] => s348 N κ v0 S | _ => runF (Cs N) κ false 348 args S
theorem q348 (N : Nat) (κ : Oracles) (args : List AV) (S : St) : d348 N κ args S = runF (Cs N) κ false 348 args S := by
  unfold d348
  split
  · exact (e348 N κ _ S).symm
  · rfl
noncomputable def d349 (N : Nat) (κ : Oracles) (args : List AV) (S : St) : R := match args with | [v0] => s349 N κ v0 S | _ => runF (Cs N) κ false 349 args S
theorem q349 (N : Nat) (κ : Oracles) (args : List AV) (S : St) : d349 N κ args S = runF (Cs N) κ false 349 args S := by
  unfold d349
  split
  · exact (e349 N κ _ S).symm
  · rfl
noncomputable def d352 (N : Nat) (κ : Oracles) (args : List AV) (S : St) : R := match args with | [v0, v1, v2] => s352 N κ v0 v1 v2 S | _ => runF (Cs N) κ false 352 args S
theorem q352 (N : Nat) (κ : Oracles) (args : List AV) (S : St) : d352 N κ args S = runF (Cs N) κ false 352 args S := by
  unfold d352
  split
  · exact (e352 N κ _ _ _ S).symm
  · rfl
noncomputable def d353 (N : Nat) (κ : Oracles) (args : List AV) (S : St) : R := match args with | [v0, v1] => s353 N κ v0 v1 S | _ => runF (Cs N) κ false 353 args S
theorem q353 (N : Nat) (κ : Oracles) (args : List AV) (S : St) : d353 N κ args S = runF (Cs N) κ false 353 args S := by
  unfold d353
  split
  · exact (e353 N κ _ _ S).symm
  · rfl
noncomputable def d397 (N : Nat) (κ : Oracles) (args : List AV) (S : St) : R := match args with | [v0, v1] => s397 N κ v0 v1 S | _ => runF (Cs N) κ false 397 args S
theorem q397 (N : Nat) (κ : Oracles) (args : List AV) (S : St) : d397 N κ args S = runF (Cs N) κ false 397 args S := by
  unfold d397
  split
  · exact (e397 N κ _ _ S).symm
  · rfl
noncomputable def d398 (N : Nat) (κ : Oracles) (args : List AV) (S : St) : R := match args with | [v0, v1] => s398 N κ v0 v1 S | _ => runF (Cs N) κ false 398 args S
theorem q398 (N : Nat) (κ : Oracles) (args : List AV) (S : St) : d398 N κ args S = runF (Cs N) κ false 398 args S := by
  unfold d398
  split
  · exact (e398 N κ _ _ S).symm
  · rfl
noncomputable def d405 (N : Nat) (κ : Oracles) (args : List AV) (S : St) : R := match args with | [v0] => s405 N κ v0 S | _ => runF (Cs N) κ false 405 args S
theorem q405 (N : Nat) (κ : Oracles) (args : List AV) (S : St) : d405 N κ args S = runF (Cs N) κ false 405 args S := by
  unfold d405
  split
  · exact (e405 N κ _ S).symm
  · rfl
noncomputable def d406 (N : Nat) (κ : Oracles) (args : List AV) (S : St) : R := match args with | [v0, v1, v2] => s406 N κ v0 v1 v2 S | _ => runF (Cs N) κ false 406 args S
theorem q406 (N : Nat) (κ : Oracles) (args : List AV) (S : St) : d406 N κ args S = runF (Cs N) κ false 406 args S := by
  unfold d406
  split
  · exact (e406 N κ _ _ _ S).symm
  · rfl
noncomputable def d407 (N : Nat) (κ : Oracles) (args : List AV) (S : St) : R := match args with | [v0] => s407 N κ v0 S | _ => runF (Cs N) κ false 407 args S
theorem q407 (N : Nat) (κ : Oracles) (args : List AV) (S : St) : d407 N κ args S = runF (Cs N) κ false 407 args S := by
  unfold d407
  split
  · exact (e407 N κ _ S).symm
  · rfl
noncomputable def d441 (N : Nat) (κ : Oracles) (args : List AV) (S : St) : R := match args with | [v0, v1] => s441 N κ v0 v1 S | _ => runF (Cs N) κ false 441 args S
theorem q441 (N : Nat) (κ : Oracles) (args : List AV) (S : St) : d441 N κ args S = runF (Cs N) κ false 441 args S := by
  unfold d441
  split
  · exact (e441 N κ _ _ S).symm
  · rfl
noncomputable def d444 (N : Nat) (κ : Oracles) (args : List AV) (S : St) : R := match args with | [v0, v1, v2] => s444 N κ v0 v1 v2 S | _ => runF (Cs N) κ false 444 args S
theorem q444 (N : Nat) (κ : Oracles) (args : List AV) (S : St) : d444 N κ args S = runF (Cs N) κ false 444 args S := by
  unfold d444
  split
  · exact (e444 N κ _ _ _ S).symm
  · rfl
noncomputable def dispC (N : Nat) (κ : Oracles) (f : FuncId) (args : List AV) (S : St) : R :=
  let d := runF (Cs N) κ false f args S
  (bif Nat.blt f 126 then (bif Nat.blt f 76 then (bif Nat.blt f 45 then (bif Nat.blt f 17 then (bif Nat.blt f 12 then (bif Nat.blt f 6 then (bif Nat.beq f 4 then d4 N κ args S else d) else (bif Nat.blt f 8 then (bif Nat.beq f 6 then d6 N κ args S else d) else (bif Nat.beq f 8 then d8 N κ args S else d))) else (bif Nat.blt f 14 then (bif Nat.beq f 12 then d12 N κ args S else d) else (bif Nat.blt f 16 then (bif Nat.beq f 14 then d14 N κ args S else d) else (bif Nat.beq f 16 then d16 N κ args S else d)))) else (bif Nat.blt f 20 then (bif Nat.blt f 18 then (bif Nat.beq f 17 then d17 N κ args S else d) else (bif Nat.blt f 19 then (bif Nat.beq f 18 then d18 N κ args S else d) else (bif Nat.beq f 19 then d19 N κ args S else d))) else (bif Nat.blt f 33 then (bif Nat.blt f 31 then (bif Nat.beq f 20 then d20 N κ args S else d) else (bif Nat.beq f 31 then d31 N κ args S else d)) else (bif Nat.blt f 40 then (bif Nat.beq f 33 then d33 N κ args S else d) else (bif Nat.beq f 40 then d40 N κ args S else d))))) else (bif Nat.blt f 57 then (bif Nat.blt f 53 then (bif Nat.blt f 47 then (bif Nat.beq f 45 then d45 N κ args S else d) else (bif Nat.blt f 48 then (bif Nat.beq f 47 then d47 N κ args S else d) else (bif Nat.beq f 48 then d48 N κ args S else d))) else (bif Nat.blt f 55 then (bif Nat.blt f 54 then (bif Nat.beq f 53 then d53 N κ args S else d) else (bif Nat.beq f 54 then d54 N κ args S else d)) else (bif Nat.blt f 56 then (bif Nat.beq f 55 then d55 N κ args S else d) else (bif Nat.beq f 56 then d56 N κ args S else d)))) else (bif Nat.blt f 62 then (bif Nat.blt f 58 then (bif Nat.beq f 57 then d57 N κ args S else d) else (bif Nat.blt f 59 then (bif Nat.beq f 58 then d58 N κ args S else d) else (bif Nat.beq f 59 then d59 N κ args S else d))) else (bif Nat.blt f 65 then (bif Nat.blt f 63 then (bif Nat.beq f 62 then d62 N κ args S else d) else (bif Nat.beq f 63 then d63 N κ args S else d)) else (bif Nat.blt f 75 then (bif Nat.beq f 65 then d65 N κ args S else d) else (bif Nat.beq f 75 then d75 N κ args S else d)))))) else (bif Nat.blt f 95 then (bif Nat.blt f 82 then (bif Nat.blt f 79 then (bif Nat.blt f 77 then (bif Nat.beq f 76 then d76 N κ args S else d) else (bif Nat.blt f 78 then (bif Nat.beq f 77 then d77 N κ args S else d) else (bif Nat.beq f 78 then d78 N κ args S else d))) else (bif Nat.blt f 80 then (bif Nat.beq f 79 then d79 N κ args S else d) else (bif Nat.blt f 81 then (bif Nat.beq f 80 then d80 N κ args S else d) else (bif Nat.beq f 81 then d81 N κ args S else d)))) else (bif Nat.blt f 85 then (bif Nat.blt f 83 then (bif Nat.beq f 82 then d82 N κ args S else d) else (bif Nat.blt f 84 then (bif Nat.beq f 83 then d83 N κ args S else d) else (bif Nat.beq f 84 then d84 N κ args S else d))) else (bif Nat.blt f 87 then (bif Nat.blt f 86 then (bif Nat.beq f 85 then d85 N κ args S else d) else (bif Nat.beq f 86 then d86 N κ args S else d)) else (bif Nat.blt f 91 then (bif Nat.beq f 87 then d87 N κ args S else d) else (bif Nat.beq f 91 then d91 N κ args S else d))))) else (bif Nat.blt f 108 then (bif Nat.blt f 104 then (bif Nat.blt f 102 then (bif Nat.beq f 95 then d95 N κ args S else d) else (bif Nat.blt f 103 then (bif Nat.beq f 102 then d102 N κ args S else d) else (bif Nat.beq f 103 then d103 N κ args S else d))) else (bif Nat.blt f 106 then (bif Nat.blt f 105 then (bif Nat.beq f 104 then d104 N κ args S else d) else (bif Nat.beq f 105 then d105 N κ args S else d)) else (bif Nat.blt f 107 then (bif Nat.beq f 106 then d106 N κ args S else d) else (bif Nat.beq f 107 then d107 N κ args S else d)))) else (bif Nat.blt f 120 then (bif Nat.blt f 110 then (bif Nat.beq f 108 then d108 N κ args S else d) else (bif Nat.blt f 119 then (bif Nat.beq f 110 then d110 N κ args S else d) else (bif Nat.beq f 119 then d119 N κ args S else d))) else (bif Nat.blt f 122 then (bif Nat.blt f 121 then (bif Nat.beq f 120 then d120 N κ args S else d) else (bif Nat.beq f 121 then d121 N κ args S else d)) else (bif Nat.blt f 123 then (bif Nat.beq f 122 then d122 N κ args S else d) else (bif Nat.beq f 123 then d123 N κ args S else d))))))) else (bif Nat.blt f 227 then (bif Nat.blt f 171 then (bif Nat.blt f 158 then (bif Nat.blt f 131 then (bif Nat.blt f 129 then (bif Nat.beq f 126 then d126 N κ args S else d) else (bif Nat.blt f 130 then (bif Nat.beq f 129 then d129 N κ args S else d) else (bif Nat.beq f 130 then d130 N κ args S else d))) else (bif Nat.blt f 136 then (bif Nat.beq f 131 then d131 N κ args S else d) else (bif Nat.blt f 137 then (bif Nat.beq f 136 then d136 N κ args S else d) else (bif Nat.beq f 137 then d137 N κ args S else d)))) else (bif Nat.blt f 162 then (bif Nat.blt f 160 then (bif Nat.beq f 158 then d158 N κ args S else d) else (bif Nat.blt f 161 then (bif Nat.beq f 160 then d160 N κ args S else d) else (bif Nat.beq f 161 then d161 N κ args S else d))) else (bif Nat.blt f 165 then (bif Nat.blt f 164 then (bif Nat.beq f 162 then d162 N κ args S else d) else (bif Nat.beq f 164 then d164 N κ args S else d)) else (bif Nat.blt f 169 then (bif Nat.beq f 165 then d165 N κ args S else d) else (bif Nat.beq f 169 then d169 N κ args S else d))))) else (bif Nat.blt f 214 then (bif Nat.blt f 200 then (bif Nat.blt f 172 then (bif Nat.beq f 171 then d171 N κ args S else d) else (bif Nat.blt f 173 then (bif Nat.beq f 172 then d172 N κ args S else d) else (bif Nat.beq f 173 then d173 N κ args S else d))) else (bif Nat.blt f 208 then (bif Nat.blt f 207 then (bif Nat.beq f 200 then d200 N κ args S else d) else (bif Nat.beq f 207 then d207 N κ args S else d)) else (bif Nat.blt f 211 then (bif Nat.beq f 208 then d208 N κ args S else d) else (bif Nat.beq f 211 then d211 N κ args S else d)))) else (bif Nat.blt f 217 then (bif Nat.blt f 215 then (bif Nat.beq f 214 then d214 N κ args S else d) else (bif Nat.blt f 216 then (bif Nat.beq f 215 then d215 N κ args S else d) else (bif Nat.beq f 216 then d216 N κ args S else d))) else (bif Nat.blt f 225 then (bif Nat.blt f 219 then (bif Nat.beq f 217 then d217 N κ args S else d) else (bif Nat.beq f 219 then d219 N κ args S else d)) else (bif Nat.blt f 226 then (bif Nat.beq f 225 then d225 N κ args S else d) else (bif Nat.beq f 226 then d226 N κ args S else d)))))) else (bif Nat.blt f 304 then (bif Nat.blt f 279 then (bif Nat.blt f 254 then (bif Nat.blt f 229 then (bif Nat.beq f 227 then d227 N κ args S else d) else (bif Nat.blt f 251 then (bif Nat.beq f 229 then d229 N κ args S else d) else (bif Nat.beq f 251 then d251 N κ args S else d))) else (bif Nat.blt f 277 then (bif Nat.blt f 275 then (bif Nat.beq f 254 then d254 N κ args S else d) else (bif Nat.beq f 275 then d275 N κ args S else d)) else (bif Nat.blt f 278 then (bif Nat.beq f 277 then d277 N κ args S else d) else (bif Nat.beq f 278 then d278 N κ args S else d)))) else (bif Nat.blt f 288 then (bif Nat.blt f 281 then (bif Nat.beq f 279 then d279 N κ args S else d) else (bif Nat.blt f 282 then (bif Nat.beq f 281 then d281 N κ args S else d) else (bif Nat.beq f 282 then d282 N κ args S else d))) else (bif Nat.blt f 292 then (bif Nat.blt f 291 then (bif Nat.beq f 288 then d288 N κ args S else d) else (bif Nat.beq f 291 then d291 N κ args S else d)) else (bif Nat.blt f 303 then (bif Nat.beq f 292 then d292 N κ args S else d) else (bif Nat.beq f 303 then d303 N κ args S else d))))) else (bif Nat.blt f 397 then (bif Nat.blt f 348 then (bif Nat.blt f 305 then (bif Nat.beq f 304 then d304 N κ args S else d) else (bif Nat.blt f 331 then (bif Nat.beq f 305 then d305 N κ args S else d) else (bif Nat.beq f 331 then d331 N κ args S else d))) else (bif Nat.blt f 352 then (bif Nat.blt f 349 then (bif Nat.beq f 348 then d348 N κ args S else d) else (bif Nat.beq f 349 then d349 N κ args S else d)) else (bif Nat.blt f 353 then (bif Nat.beq f 352 then d352 N κ args S else d) else (bif Nat.beq f 353 then d353 N κ args S else d)))) else (bif Nat.blt f 406 then (bif Nat.blt f 398 then (bif Nat.beq f 397 then d397 N κ args S else d) else (bif Nat.blt f 405 then (bif Nat.beq f 398 then d398 N κ args S else d) else (bif Nat.beq f 405 then d405 N κ args S else d))) else (bif Nat.blt f 441 then (bif Nat.blt f 407 then (bif Nat.beq f 406 then d406 N κ args S else d) else (bif Nat.beq f 407 then d407 N κ args S else d)) else (bif Nat.blt f 444 then (bif Nat.beq f 441 then d441 N κ args S else d) else (bif Nat.beq f 444 then d444 N κ args S else d))))))))
theorem dispC_eq (N : Nat) (κ : Oracles) (f : FuncId) (args : List AV) (S : St) : dispC N κ f args S = runF (Cs N) κ false f args S := by
  unfold dispC
  simp only
  refine treeC _ _ _ _ (fun _ => ?_) (fun _ => ?_)
  · refine treeC _ _ _ _ (fun _ => ?_) (fun _ => ?_)
    · refine treeC _ _ _ _ (fun _ => ?_) (fun _ => ?_)
      · refine treeC _ _ _ _ (fun _ => ?_) (fun _ => ?_)
        · refine treeC _ _ _ _ (fun _ => ?_) (fun _ => ?_)
          · refine treeC _ _ _ _ (fun _ => ?_) (fun _ => ?_)
            · exact leafC _ _ _ fun h => by subst h; exact q4 N κ args S
            · refine treeC _ _ _ _ (fun _ => ?_) (fun _ => ?_)
              · exact leafC _ _ _ fun h => by subst h; exact q6 N κ args S
              · exact leafC _ _ _ fun h => by subst h; exact q8 N κ args S
          · refine treeC _ _ _ _ (fun _ => ?_) (fun _ => ?_)
            · exact leafC _ _ _ fun h => by subst h; exact q12 N κ args S
            · refine treeC _ _ _ _ (fun _ => ?_) (fun _ => ?_)
              · exact leafC _ _ _ fun h => by subst h; exact q14 N κ args S
              · exact leafC _ _ _ fun h => by subst h; exact q16 N κ args S
        · refine treeC _ _ _ _ (fun _ => ?_) (fun _ => ?_)
          · refine treeC _ _ _ _ (fun _ => ?_) (fun _ => ?_)
            · exact leafC _ _ _ fun h => by subst h; exact q17 N κ args S
            · refine treeC _ _ _ _ (fun _ => ?_) (fun _ => ?_)
              · exact leafC _ _ _ fun h => by subst h; exact q18 N κ args S
              · exact leafC _ _ _ fun h => by subst h; exact q19 N κ args S
          · refine treeC _ _ _ _ (fun _ => ?_) (fun _ => ?_)
            · refine treeC _ _ _ _ (fun _ => ?_) (fun _ => ?_)
              · exact leafC _ _ _ fun h => by subst h; exact q20 N κ args S
              · exact leafC _ _ _ fun h => by subst h; exact q31 N κ args S
            · refine treeC _ _ _ _ (fun _ => ?_) (fun _ => ?_)
              · exact leafC _ _ _ fun h => by subst h; exact q33 N κ args S
              · exact leafC _ _ _ fun h => by subst h; exact q40 N κ args S
      · refine treeC _ _ _ _ (fun _ => ?_) (fun _ => ?_)
        · refine treeC _ _ _ _ (fun _ => ?_) (fun _ => ?_)
          · refine treeC _ _ _ _ (fun _ => ?_) (fun _ => ?_)
            · exact leafC _ _ _ fun h => by subst h; exact q45 N κ args S
            · refine treeC _ _ _ _ (fun _ => ?_) (fun _ => ?_)
              · exact leafC _ _ _ fun h => by subst h; exact q47 N κ args S
              · exact leafC _ _ _ fun h => by subst h; exact q48 N κ args S
          · refine treeC _ _ _ _ (fun _ => ?_) (fun _ => ?_)
            · refine treeC _ _ _ _ (fun _ => ?_) (fun _ => ?_)
              · exact leafC _ _ _ fun h => by subst h; exact q53 N κ args S
              · exact leafC _ _ _ fun h => by subst h; exact q54 N κ args S
            · refine treeC _ _ _ _ (fun _ => ?_) (fun _ => ?_)
              · exact leafC _ _ _ fun h => by subst h; exact q55 N κ args S
              · exact leafC _ _ _ fun h => by subst h; exact q56 N κ args S
        · refine treeC _ _ _ _ (fun _ => ?_) (fun _ => ?_)
          · refine treeC _ _ _ _ (fun _ => ?_) (fun _ => ?_)
            · exact leafC _ _ _ fun h => by subst h; exact q57 N κ args S
            · refine treeC _ _ _ _ (fun _ => ?_) (fun _ => ?_)
              · exact leafC _ _ _ fun h => by subst h; exact q58 N κ args S
              · exact leafC _ _ _ fun h => by subst h; exact q59 N κ args S
          · refine treeC _ _ _ _ (fun _ => ?_) (fun _ => ?_)
            · refine treeC _ _ _ _ (fun _ => ?_) (fun _ => ?_)
              · exact leafC _ _ _ fun h => by subst h; exact q62 N κ args S
              · exact leafC _ _ _ fun h => by subst h; exact q63 N κ args S
            · refine treeC _ _ _ _ (fun _ => ?_) (fun _ => ?_)
              · exact leafC _ _ _ fun h => by subst h; exact q65 N κ args S
              · exact leafC _ _ _ fun h => by subst h; exact q75 N κ args S
    · refine treeC _ _ _ _ (fun _ => ?_) (fun _ => ?_)
      · refine treeC _ _ _ _ (fun _ => ?_) (fun _ => ?_)
        · refine treeC _ _ _ _ (fun _ => ?_) (fun _ => ?_)
          · refine treeC _ _ _ _ (fun _ => ?_) (fun _ => ?_)
            · exact leafC _ _ _ fun h => by subst h; exact q76 N κ args S
            · refine treeC _ _ _ _ (fun _ => ?_) (fun _ => ?_)
              · exact leafC _ _ _ fun h => by subst h; exact q77 N κ args S
              · exact leafC _ _ _ fun h => by subst h; exact q78 N κ args S
          · refine treeC _ _ _ _ (fun _ => ?_) (fun _ => ?_)
            · exact leafC _ _ _ fun h => by subst h; exact q79 N κ args S
            · refine treeC _ _ _ _ (fun _ => ?_) (fun _ => ?_)
              · exact leafC _ _ _ fun h => by subst h; exact q80 N κ args S
              · exact leafC _ _ _ fun h => by subst h; exact q81 N κ args S
        · refine treeC _ _ _ _ (fun _ => ?_) (fun _ => ?_)
          · refine treeC _ _ _ _ (fun _ => ?_) (fun _ => ?_)
            · exact leafC _ _ _ fun h => by subst h; exact q82 N κ args S
            · refine treeC _ _ _ _ (fun _ => ?_) (fun _ => ?_)
              · exact leafC _ _ _ fun h => by subst h; exact q83 N κ args S
              · exact leafC _ _ _ fun h => by subst h; exact q84 N κ args S
          · refine treeC _ _ _ _ (fun _ => ?_) (fun _ => ?_)
            · refine treeC _ _ _ _ (fun _ => ?_) (fun _ => ?_)
              · exact leafC _ _ _ fun h => by subst h; exact q85 N κ args S
              · exact leafC _ _ _ fun h => by subst h; exact q86 N κ args S
            · refine treeC _ _ _ _ (fun _ => ?_) (fun _ => ?_)
              · exact leafC _ _ _ fun h => by subst h; exact q87 N κ args S
              · exact leafC _ _ _ fun h => by subst h; exact q91 N κ args S
      · refine treeC _ _ _ _ (fun _ => ?_) (fun _ => ?_)
        · refine treeC _ _ _ _ (fun _ => ?_) (fun _ => ?_)
          · refine treeC _ _ _ _ (fun _ => ?_) (fun _ => ?_)
            · exact leafC _ _ _ fun h => by subst h; exact q95 N κ args S
            · refine treeC _ _ _ _ (fun _ => ?_) (fun _ => ?_)
              · exact leafC _ _ _ fun h => by subst h; exact q102 N κ args S
              · exact leafC _ _ _ fun h => by subst h; exact q103 N κ args S
          · refine treeC _ _ _ _ (fun _ => ?_) (fun _ => ?_)
            · refine treeC _ _ _ _ (fun _ => ?_) (fun _ => ?_)
              · exact leafC _ _ _ fun h => by subst h; exact q104 N κ args S
              · exact leafC _ _ _ fun h => by subst h; exact q105 N κ args S
            · refine treeC _ _ _ _ (fun _ => ?_) (fun _ => ?_)
              · exact leafC _ _ _ fun h => by subst h; exact q106 N κ args S
              · exact leafC _ _ _ fun h => by subst h; exact q107 N κ args S
        · refine treeC _ _ _ _ (fun _ => ?_) (fun _ => ?_)
          · refine treeC _ _ _ _ (fun _ => ?_) (fun _ => ?_)
            · exact leafC _ _ _ fun h => by subst h; exact q108 N κ args S
            · refine treeC _ _ _ _ (fun _ => ?_) (fun _ => ?_)
              · exact leafC _ _ _ fun h => by subst h; exact q110 N κ args S
              · exact leafC _ _ _ fun h => by subst h; exact q119 N κ args S
          · refine treeC _ _ _ _ (fun _ => ?_) (fun _ => ?_)
            · refine treeC _ _ _ _ (fun _ => ?_) (fun _ => ?_)
              · exact leafC _ _ _ fun h => by subst h; exact q120 N κ args S
              · exact leafC _ _ _ fun h => by subst h; exact q121 N κ args S
            · refine treeC _ _ _ _ (fun _ => ?_) (fun _ => ?_)
              · exact leafC _ _ _ fun h => by subst h; exact q122 N κ args S
              · exact leafC _ _ _ fun h => by subst h; exact q123 N κ args S
  · refine treeC _ _ _ _ (fun _ => ?_) (fun _ => ?_)
    · refine treeC _ _ _ _ (fun _ => ?_) (fun _ => ?_)
      · refine treeC _ _ _ _ (fun _ => ?_) (fun _ => ?_)
        · refine treeC _ _ _ _ (fun _ => ?_) (fun _ => ?_)
          · refine treeC _ _ _ _ (fun _ => ?_) (fun _ => ?_)
            · exact leafC _ _ _ fun h => by subst h; exact q126 N κ args S
            · refine treeC _ _ _ _ (fun _ => ?_) (fun _ => ?_)
              · exact leafC _ _ _ fun h => by subst h; exact q129 N κ args S
              · exact leafC _ _ _ fun h => by subst h; exact q130 N κ args S
          · refine treeC _ _ _ _ (fun _ => ?_) (fun _ => ?_)
            · exact leafC _ _ _ fun h => by subst h; exact q131 N κ args S
            · refine treeC _ _ _ _ (fun _ => ?_) (fun _ => ?_)
              · exact leafC _ _ _ fun h => by subst h; exact q136 N κ args S
              · exact leafC _ _ _ fun h => by subst h; exact q137 N κ args S
        · refine treeC _ _ _ _ (fun _ => ?_) (fun _ => ?_)
          · refine treeC _ _ _ _ (fun _ => ?_) (fun _ => ?_)
            · exact leafC _ _ _ fun h => by subst h; exact q158 N κ args S
            · refine treeC _ _ _ _ (fun _ => ?_) (fun _ => ?_)
              · exact leafC _ _ _ fun h => by subst h; exact q160 N κ args S
              · exact leafC _ _ _ fun h => by subst h; exact q161 N κ args S
          · refine treeC _ _ _ _ (fun _ => ?_) (fun _ => ?_)
            · refine treeC _ _ _ _ (fun _ => ?_) (fun _ => ?_)
              · exact leafC _ _ _ fun h => by subst h; exact q162 N κ args S
              · exact leafC _ _ _ fun h => by subst h; exact q164 N κ args S
            · refine treeC _ _ _ _ (fun _ => ?_) (fun _ => ?_)
              · exact leafC _ _ _ fun h => by subst h; exact q165 N κ args S
              · exact leafC _ _ _ fun h => by subst h; exact q169 N κ args S
      · refine treeC _ _ _ _ (fun _ => ?_) (fun _ => ?_)
        · refine treeC _ _ _ _ (fun _ => ?_) (fun _ => ?_)
          · refine treeC _ _ _ _ (fun _ => ?_) (fun _ => ?_)
            · exact leafC _ _ _ fun h => by subst h; exact q171 N κ args S
            · refine treeC _ _ _ _ (fun _ => ?_) (fun _ => ?_)
              · exact leafC _ _ _ fun h => by subst h; exact q172 N κ args S
              · exact leafC _ _ _ fun h => by subst h; exact q173 N κ args S
          · refine treeC _ _ _ _ (fun _ => ?_) (fun _ => ?_)
            · refine treeC _ _ _ _ (fun _ => ?_) (fun _ => ?_)
              · exact leafC _ _ _ fun h => by subst h; exact q200 N κ args S
              · exact leafC _ _ _ fun h => by subst h; exact q207 N κ args S
            · refine treeC _ _ _ _ (fun _ => ?_) (fun _ => ?_)
              · exact leafC _ _ _ fun h => by subst h; exact q208 N κ args S
              · exact leafC _ _ _ fun h => by subst h; exact q211 N κ args S
        · refine treeC _ _ _ _ (fun _ => ?_) (fun _ => ?_)
          · refine treeC _ _ _ _ (fun _ => ?_) (fun _ => ?_)
            · exact leafC _ _ _ fun h => by subst h; exact q214 N κ args S
            · refine treeC _ _ _ _ (fun _ => ?_) (fun _ => ?_)
              · exact leafC _ _ _ fun h => by subst h; exact q215 N κ args S
              · exact leafC _ _ _ fun h => by subst h; exact q216 N κ args S
          · refine treeC _ _ _ _ (fun _ => ?_) (fun _ => ?_)
            · refine treeC _ _ _ _ (fun _ => ?_) (fun _ => ?_)
              · exact leafC _ _ _ fun h => by subst h; exact q217 N κ args S
              · exact leafC _ _ _ fun h => by subst h; exact q219 N κ args S
            · refine treeC _ _ _ _ (fun _ => ?_) (fun _ => ?_)
              · exact leafC _ _ _ fun h => by subst h; exact q225 N κ args S
              · exact leafC _ _ _ fun h => by subst h; exact q226 N κ args S
    · refine treeC _ _ _ _ (fun _ => ?_) (fun _ => ?_)
      · refine treeC _ _ _ _ (fun _ => ?_) (fun _ => ?_)
        · refine treeC _ _ _ _ (fun _ => ?_) (fun _ => ?_)
          · refine treeC _ _ _ _ (fun _ => ?_) (fun _ => ?_)
            · exact leafC _ _ _ fun h => by subst h; exact q227 N κ args S
            · refine treeC _ _ _ _ (fun _ => ?_) (fun _ => ?_)
              · exact leafC _ _ _ fun h => by subst h; exact q229 N κ args S
              · exact leafC _ _ _ fun h => by subst h; exact q251 N κ args S
          · refine treeC _ _ _ _ (fun _ => ?_) (fun _ => ?_)
            · refine treeC _ _ _ _ (fun _ => ?_) (fun _ => ?_)
              · exact leafC _ _ _ fun h => by subst h; exact q254 N κ args S
              · exact leafC _ _ _ fun h => by subst h; exact q275 N κ args S
            · refine treeC _ _ _ _ (fun _ => ?_) (fun _ => ?_)
              · exact leafC _ _ _ fun h => by subst h; exact q277 N κ args S
              · exact leafC _ _ _ fun h => by subst h; exact q278 N κ args S
        · refine treeC _ _ _ _ (fun _ => ?_) (fun _ => ?_)
          · refine treeC _ _ _ _ (fun _ => ?_) (fun _ => ?_)
            · exact leafC _ _ _ fun h => by subst h; exact q279 N κ args S
            · refine treeC _ _ _ _ (fun _ => ?_) (fun _ => ?_)
              · exact leafC _ _ _ fun h => by subst h; exact q281 N κ args S
              · exact leafC _ _ _ fun h => by subst h; exact q282 N κ args S
          · refine treeC _ _ _ _ (fun _ => ?_) (fun _ => ?_)
            · refine treeC _ _ _ _ (fun _ => ?_) (fun _ => ?_)
              · exact leafC _ _ _ fun h => by subst h; exact q288 N κ args S
              · exact leafC _ _ _ fun h => by subst h; exact q291 N κ args S
            · refine treeC _ _ _ _ (fun _ => ?_) (fun _ => ?_)
              · exact leafC _ _ _ fun h => by subst h; exact q292 N κ args S
              · exact leafC _ _ _ fun h => by subst h; exact q303 N κ args S
      · refine treeC _ _ _ _ (fun _ => ?_) (fun _ => ?_)
        · refine treeC _ _ _ _ (fun _ => ?_) (fun _ => ?_)
          · refine treeC _ _ _ _ (fun _ => ?_) (fun _ => ?_)
            · exact leafC _ _ _ fun h => by subst h; exact q304 N κ args S
            · refine treeC _ _ _ _ (fun _ => ?_) (fun _ => ?_)
              · exact leafC _ _ _ fun h => by subst h; exact q305 N κ args S
              · exact leafC _ _ _ fun h => by subst h; exact q331 N κ args S
          · refine treeC _ _ _ _ (fun _ => ?_) (fun _ => ?_)
            · refine treeC _ _ _ _ (fun _ => ?_) (fun _ => ?_)
              · exact leafC _ _ _ fun h => by subst h; exact q348 N κ args S
              · exact leafC _ _ _ fun h => by subst h; exact q349 N κ args S
            · refine treeC _ _ _ _ (fun _ => ?_) (fun _ => ?_)
              · exact leafC _ _ _ fun h => by subst h; exact q352 N κ args S
              · exact leafC _ _ _ fun h => by subst h; exact q353 N κ args S
        · refine treeC _ _ _ _ (fun _ => ?_) (fun _ => ?_)
          · refine treeC _ _ _ _ (fun _ => ?_) (fun _ => ?_)
            · exact leafC _ _ _ fun h => by subst h; exact q397 N κ args S
            · refine treeC _ _ _ _ (fun _ => ?_) (fun _ => ?_)
              · exact leafC _ _ _ fun h => by subst h; exact q398 N κ args S
              · exact leafC _ _ _ fun h => by subst h; exact q405 N κ args S
          · refine treeC _ _ _ _ (fun _ => ?_) (fun _ => ?_)
            · refine treeC _ _ _ _ (fun _ => ?_) (fun _ => ?_)
              · exact leafC _ _ _ fun h => by subst h; exact q406 N κ args S
              · exact leafC _ _ _ fun h => by subst h; exact q407 N κ args S
            · refine treeC _ _ _ _ (fun _ => ?_) (fun _ => ?_)
              · exact leafC _ _ _ fun h => by subst h; exact q441 N κ args S
              · exact leafC _ _ _ fun h => by subst h; exact q444 N κ args S
noncomputable def shOr (N : Nat) : Nat → Oracles
  | 0 => { call := fun _ _ _ => none, yld := fun _ _ _ => none, dcall := fun _ _ _ => none }
  | n + 1 =>
    { call := fun f args S => dispC N (shOr N n) f args S
      yld := fun o args S => runY (Cs N) (shOr N n).toOracle o args S
      dcall := fun f args S => runF (Cs N) (shOr N n) true f args S }
theorem shOr_eq (N : Nat) : ∀ n, shOr N n = run (Cs N) n
  | 0 => rfl
  | n + 1 => by
    have h := shOr_eq N n
    unfold shOr run
    rw [h]
    congr 1
    congr 1
    funext f args S
    exact dispC_eq N _ f args S
end Go.Sac
