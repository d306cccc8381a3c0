/- Which direct form a number has, printed by mksh.py. -/
import Derived.Test.YtippafigppeblaaGreatSacRS0
import Derived.Test.YtippafigppeblaaGreatSacRS1
import Derived.Test.YtippafigppeblaaGreatSacRS2
import Derived.Test.YtippafigppeblaaGreatSacRS3
import Derived.Test.YtippafigppeblaaGreatSacRS4
namespace Go.Sac
set_option linter.unusedVariables false
set_option maxRecDepth 100000
open Go
theorem leafC {f i : Nat} (x d r : R) (h : f = i → x = r) (hd : d = r := by rfl) : (bif Nat.beq f i then x else d) = r := by
  cases q : Nat.beq f i
  · exact hd
  · exact h (by simpa using q)
theorem treeC (c : Bool) (x y r : R) (hx : c = true → x = r) (hy : c = false → y = r) : (bif c then x else y) = r := by
  cases c
  · exact hy rfl
  · exact hx rfl
noncomputable def d6 (N : Nat) (κ : Oracles) (args : List AV) (S : St) : R := match args with | [] => s6 N κ S | _ => runF (Cs N) κ false 6 args S
theorem q6 (N : Nat) (κ : Oracles) (args : List AV) (S : St) : d6 N κ args S = runF (Cs N) κ false 6 args S := by
  unfold d6
  split
  · exact (e6 N κ S).symm
  · rfl
noncomputable def d7 (N : Nat) (κ : Oracles) (args : List AV) (S : St) : R := match args with | [] => s7 N κ S | _ => runF (Cs N) κ false 7 args S
theorem q7 (N : Nat) (κ : Oracles) (args : List AV) (S : St) : d7 N κ args S = runF (Cs N) κ false 7 args S := by
  unfold d7
  split
  · exact (e7 N κ S).symm
  · rfl
noncomputable def d8 (N : Nat) (κ : Oracles) (args : List AV) (S : St) : R := match args with | [v0, v1] => s8 N κ v0 v1 S | _ => runF (Cs N) κ false 8 args S
theorem q8 (N : Nat) (κ : Oracles) (args : List AV) (S : St) : d8 N κ args S = runF (Cs N) κ false 8 args S := by
  unfold d8
  split
  · exact (e8 N κ _ _ S).symm
  · rfl
noncomputable def d9 (N : Nat) (κ : Oracles) (args : List AV) (S : St) : R := match args with | [v0] => s9 N κ v0 S | _ => runF (Cs N) κ false 9 args S
theorem q9 (N : Nat) (κ : Oracles) (args : List AV) (S : St) : d9 N κ args S = runF (Cs N) κ false 9 args S := by
  unfold d9
  split
  · exact (e9 N κ _ S).symm
  · rfl
noncomputable def d10 (N : Nat) (κ : Oracles) (args : List AV) (S : St) : R := match args with | [v0] => s10 N κ v0 S | _ => runF (Cs N) κ false 10 args S
theorem q10 (N : Nat) (κ : Oracles) (args : List AV) (S : St) : d10 N κ args S = runF (Cs N) κ false 10 args S := by
  unfold d10
  split
  · exact (e10 N κ _ S).symm
  · rfl
noncomputable def d12 (N : Nat) (κ : Oracles) (args : List AV) (S : St) : R := match args with | [v0] => s12 N κ v0 S | _ => runF (Cs N) κ false 12 args S
theorem q12 (N : Nat) (κ : Oracles) (args : List AV) (S : St) : d12 N κ args S = runF (Cs N) κ false 12 args S := by
  unfold d12
  split
  · exact (e12 N κ _ S).symm
  · rfl
noncomputable def d13 (N : Nat) (κ : Oracles) (args : List AV) (S : St) : R := match args with | [v0, v1] => s13 N κ v0 v1 S | _ => runF (Cs N) κ false 13 args S
theorem q13 (N : Nat) (κ : Oracles) (args : List AV) (S : St) : d13 N κ args S = runF (Cs N) κ false 13 args S := by
  unfold d13
  split
  · exact (e13 N κ _ _ S).symm
  · rfl
noncomputable def d14 (N : Nat) (κ : Oracles) (args : List AV) (S : St) : R := match args with | [v0] => s14 N κ v0 S | _ => runF (Cs N) κ false 14 args S
theorem q14 (N : Nat) (κ : Oracles) (args : List AV) (S : St) : d14 N κ args S = runF (Cs N) κ false 14 args S := by
  unfold d14
  split
  · exact (e14 N κ _ S).symm
  · rfl
noncomputable def d15 (N : Nat) (κ : Oracles) (args : List AV) (S : St) : R := match args with | [] => s15 N κ S | _ => runF (Cs N) κ false 15 args S
theorem q15 (N : Nat) (κ : Oracles) (args : List AV) (S : St) : d15 N κ args S = runF (Cs N) κ false 15 args S := by
  unfold d15
  split
  · exact (e15 N κ S).symm
  · rfl
noncomputable def d30 (N : Nat) (κ : Oracles) (args : List AV) (S : St) : R := match args with | [] => s30 N κ S | _ => runF (Cs N) κ false 30 args S
theorem q30 (N : Nat) (κ : Oracles) (args : List AV) (S : St) : d30 N κ args S = runF (Cs N) κ false 30 args S := by
  unfold d30
  split
  · exact (e30 N κ S).symm
  · rfl
noncomputable def d31 (N : Nat) (κ : Oracles) (args : List AV) (S : St) : R := match args with | [v0] => s31 N κ v0 S | _ => runF (Cs N) κ false 31 args S
theorem q31 (N : Nat) (κ : Oracles) (args : List AV) (S : St) : d31 N κ args S = runF (Cs N) κ false 31 args S := by
  unfold d31
  split
  · exact (e31 N κ _ S).symm
  · rfl
noncomputable def d32 (N : Nat) (κ : Oracles) (args : List AV) (S : St) : R := match args with | [v0] => s32 N κ v0 S | _ => runF (Cs N) κ false 32 args S
theorem q32 (N : Nat) (κ : Oracles) (args : List AV) (S : St) : d32 N κ args S = runF (Cs N) κ false 32 args S := by
  unfold d32
  split
  · exact (e32 N κ _ S).symm
  · rfl
noncomputable def d33 (N : Nat) (κ : Oracles) (args : List AV) (S : St) : R := match args with | [v0] => s33 N κ v0 S | _ => runF (Cs N) κ false 33 args S
theorem q33 (N : Nat) (κ : Oracles) (args : List AV) (S : St) : d33 N κ args S = runF (Cs N) κ false 33 args S := by
  unfold d33
  split
  · exact (e33 N κ _ S).symm
  · rfl
noncomputable def d34 (N : Nat) (κ : Oracles) (args : List AV) (S : St) : R := match args with | [v0, v1, v2] => s34 N κ v0 v1 v2 S | _ => runF (Cs N) κ false 34 args S
theorem q34 (N : Nat) (κ : Oracles) (args : List AV) (S : St) : d34 N κ args S = runF (Cs N) κ false 34 args S := by
  unfold d34
  split
  · exact (e34 N κ _ _ _ S).symm
  · rfl
noncomputable def d35 (N : Nat) (κ : Oracles) (args : List AV) (S : St) : R := match args with | [v0] => s35 N κ v0 S | _ => runF (Cs N) κ false 35 args S
theorem q35 (N : Nat) (κ : Oracles) (args : List AV) (S : St) : d35 N κ args S = runF (Cs N) κ false 35 args S := by
  unfold d35
  split
  · exact (e35 N κ _ S).symm
  · rfl
noncomputable def d36 (N : Nat) (κ : Oracles) (args : List AV) (S : St) : R := match args with | [v0] => s36 N κ v0 S | _ => runF (Cs N) κ false 36 args S
theorem q36 (N : Nat) (κ : Oracles) (args : List AV) (S : St) : d36 N κ args S = runF (Cs N) κ false 36 args S := by
  unfold d36
  split
  · exact (e36 N κ _ S).symm
  · rfl
noncomputable def d37 (N : Nat) (κ : Oracles) (args : List AV) (S : St) : R := match args with | [v0] => s37 N κ v0 S | _ => runF (Cs N) κ false 37 args S
theorem q37 (N : Nat) (κ : Oracles) (args : List AV) (S : St) : d37 N κ args S = runF (Cs N) κ false 37 args S := by
  unfold d37
  split
  · exact (e37 N κ _ S).symm
  · rfl
noncomputable def d38 (N : Nat) (κ : Oracles) (args : List AV) (S : St) : R := match args with | [v0, v1] => s38 N κ v0 v1 S | _ => runF (Cs N) κ false 38 args S
theorem q38 (N : Nat) (κ : Oracles) (args : List AV) (S : St) : d38 N κ args S = runF (Cs N) κ false 38 args S := by
  unfold d38
  split
  · exact (e38 N κ _ _ S).symm
  · rfl
noncomputable def d40 (N : Nat) (κ : Oracles) (args : List AV) (S : St) : R := match args with | [v0] => s40 N κ v0 S | _ => runF (Cs N) κ false 40 args S
theorem q40 (N : Nat) (κ : Oracles) (args : List AV) (S : St) : d40 N κ args S = runF (Cs N) κ false 40 args S := by
  unfold d40
  split
  · exact (e40 N κ _ S).symm
  · rfl
noncomputable def d44 (N : Nat) (κ : Oracles) (args : List AV) (S : St) : R := match args with | [v0, v1, v2, v3] => s44 N κ v0 v1 v2 v3 S | _ => runF (Cs N) κ false 44 args S
theorem q44 (N : Nat) (κ : Oracles) (args : List AV) (S : St) : d44 N κ args S = runF (Cs N) κ false 44 args S := by
  unfold d44
  split
  · exact (e44 N κ _ _ _ _ S).symm
  · rfl
noncomputable def d45 (N : Nat) (κ : Oracles) (args : List AV) (S : St) : R := match args with | [v0, v1] => s45 N κ v0 v1 S | _ => runF (Cs N) κ false 45 args S
theorem q45 (N : Nat) (κ : Oracles) (args : List AV) (S : St) : d45 N κ args S = runF (Cs N) κ false 45 args S := by
  unfold d45
  split
  · exact (e45 N κ _ _ S).symm
  · rfl
noncomputable def d46 (N : Nat) (κ : Oracles) (args : List AV) (S : St) : R := match args with | [v0, v1, v2, v3] => s46 N κ v0 v1 v2 v3 S | _ => runF (Cs N) κ false 46 args S
theorem q46 (N : Nat) (κ : Oracles) (args : List AV) (S : St) : d46 N κ args S = runF (Cs N) κ false 46 args S := by
  unfold d46
  split
  · exact (e46 N κ _ _ _ _ S).symm
  · rfl
noncomputable def d47 (N : Nat) (κ : Oracles) (args : List AV) (S : St) : R := match args with | [v0] => s47 N κ v0 S | _ => runF (Cs N) κ false 47 args S
theorem q47 (N : Nat) (κ : Oracles) (args : List AV) (S : St) : d47 N κ args S = runF (Cs N) κ false 47 args S := by
  unfold d47
  split
  · exact (e47 N κ _ S).symm
  · rfl
noncomputable def d48 (N : Nat) (κ : Oracles) (args : List AV) (S : St) : R := match args with | [v0] => s48 N κ v0 S | _ => runF (Cs N) κ false 48 args S
theorem q48 (N : Nat) (κ : Oracles) (args : List AV) (S : St) : d48 N κ args S = runF (Cs N) κ false 48 args S := by
  unfold d48
  split
  · exact (e48 N κ _ S).symm
  · rfl
noncomputable def d49 (N : Nat) (κ : Oracles) (args : List AV) (S : St) : R := match args with | [v0, v1] => s49 N κ v0 v1 S | _ => runF (Cs N) κ false 49 args S
theorem q49 (N : Nat) (κ : Oracles) (args : List AV) (S : St) : d49 N κ args S = runF (Cs N) κ false 49 args S := by
  unfold d49
  split
  · exact (e49 N κ _ _ S).symm
  · rfl
noncomputable def d50 (N : Nat) (κ : Oracles) (args : List AV) (S : St) : R := match args with | [v0, v1] => s50 N κ v0 v1 S | _ => runF (Cs N) κ false 50 args S
theorem q50 (N : Nat) (κ : Oracles) (args : List AV) (S : St) : d50 N κ args S = runF (Cs N) κ false 50 args S := by
  unfold d50
  split
  · exact (e50 N κ _ _ S).symm
  · rfl
noncomputable def d51 (N : Nat) (κ : Oracles) (args : List AV) (S : St) : R := match args with | [v0, v1] => s51 N κ v0 v1 S | _ => runF (Cs N) κ false 51 args S
theorem q51 (N : Nat) (κ : Oracles) (args : List AV) (S : St) : d51 N κ args S = runF (Cs N) κ false 51 args S := by
  unfold d51
  split
  · exact (e51 N κ _ _ S).symm
  · rfl
noncomputable def d52 (N : Nat) (κ : Oracles) (args : List AV) (S : St) : R := match args with | [v0, v1] => s52 N κ v0 v1 S | _ => runF (Cs N) κ false 52 args S
theorem q52 (N : Nat) (κ : Oracles) (args : List AV) (S : St) : d52 N κ args S = runF (Cs N) κ false 52 args S := by
  unfold d52
  split
  · exact (e52 N κ _ _ S).symm
  · rfl
noncomputable def d53 (N : Nat) (κ : Oracles) (args : List AV) (S : St) : R := match args with | [v0] => s53 N κ v0 S | _ => runF (Cs N) κ false 53 args S
theorem q53 (N : Nat) (κ : Oracles) (args : List AV) (S : St) : d53 N κ args S = runF (Cs N) κ false 53 args S := by
  unfold d53
  split
  · exact (e53 N κ _ S).symm
  · rfl
noncomputable def d54 (N : Nat) (κ : Oracles) (args : List AV) (S : St) : R := match args with | [v0] => s54 N κ v0 S | _ => runF (Cs N) κ false 54 args S
theorem q54 (N : Nat) (κ : Oracles) (args : List AV) (S : St) : d54 N κ args S = runF (Cs N) κ false 54 args S := by
  unfold d54
  split
  · exact (e54 N κ _ S).symm
  · rfl
noncomputable def d55 (N : Nat) (κ : Oracles) (args : List AV) (S : St) : R := match args with | [v0] => s55 N κ v0 S | _ => runF (Cs N) κ false 55 args S
theorem q55 (N : Nat) (κ : Oracles) (args : List AV) (S : St) : d55 N κ args S = runF (Cs N) κ false 55 args S := by
  unfold d55
  split
  · exact (e55 N κ _ S).symm
  · rfl
noncomputable def d56 (N : Nat) (κ : Oracles) (args : List AV) (S : St) : R := match args with | [v0] => s56 N κ v0 S | _ => runF (Cs N) κ false 56 args S
theorem q56 (N : Nat) (κ : Oracles) (args : List AV) (S : St) : d56 N κ args S = runF (Cs N) κ false 56 args S := by
  unfold d56
  split
  · exact (e56 N κ _ S).symm
  · rfl
noncomputable def d69 (N : Nat) (κ : Oracles) (args : List AV) (S : St) : R := match args with | [v0] => s69 N κ v0 S | _ => runF (Cs N) κ false 69 args S
theorem q69 (N : Nat) (κ : Oracles) (args : List AV) (S : St) : d69 N κ args S = runF (Cs N) κ false 69 args S := by
  unfold d69
  split
  · exact (e69 N κ _ S).symm
  · rfl
noncomputable def d75 (N : Nat) (κ : Oracles) (args : List AV) (S : St) : R := match args with | [v0] => s75 N κ v0 S | _ => runF (Cs N) κ false 75 args S
theorem q75 (N : Nat) (κ : Oracles) (args : List AV) (S : St) : d75 N κ args S = runF (Cs N) κ false 75 args S := by
  unfold d75
  split
  · exact (e75 N κ _ S).symm
  · rfl
noncomputable def d76 (N : Nat) (κ : Oracles) (args : List AV) (S : St) : R := match args with | [v0] => s76 N κ v0 S | _ => runF (Cs N) κ false 76 args S
theorem q76 (N : Nat) (κ : Oracles) (args : List AV) (S : St) : d76 N κ args S = runF (Cs N) κ false 76 args S := by
  unfold d76
  split
  · exact (e76 N κ _ S).symm
  · rfl
noncomputable def d77 (N : Nat) (κ : Oracles) (args : List AV) (S : St) : R := match args with | [v0] => s77 N κ v0 S | _ => runF (Cs N) κ false 77 args S
theorem q77 (N : Nat) (κ : Oracles) (args : List AV) (S : St) : d77 N κ args S = runF (Cs N) κ false 77 args S := by
  unfold d77
  split
  · exact (e77 N κ _ S).symm
  · rfl
noncomputable def d78 (N : Nat) (κ : Oracles) (args : List AV) (S : St) : R := match args with | [v0] => s78 N κ v0 S | _ => runF (Cs N) κ false 78 args S
theorem q78 (N : Nat) (κ : Oracles) (args : List AV) (S : St) : d78 N κ args S = runF (Cs N) κ false 78 args S := by
  unfold d78
  split
  · exact (e78 N κ _ S).symm
  · rfl
noncomputable def d79 (N : Nat) (κ : Oracles) (args : List AV) (S : St) : R := match args with | [v0, v1, v2] => s79 N κ v0 v1 v2 S | _ => runF (Cs N) κ false 79 args S
theorem q79 (N : Nat) (κ : Oracles) (args : List AV) (S : St) : d79 N κ args S = runF (Cs N) κ false 79 args S := by
  unfold d79
  split
  · exact (e79 N κ _ _ _ S).symm
  · rfl
noncomputable def d80 (N : Nat) (κ : Oracles) (args : List AV) (S : St) : R := match args with | [v0] => s80 N κ v0 S | _ => runF (Cs N) κ false 80 args S
theorem q80 (N : Nat) (κ : Oracles) (args : List AV) (S : St) : d80 N κ args S = runF (Cs N) κ false 80 args S := by
  unfold d80
  split
  · exact (e80 N κ _ S).symm
  · rfl
noncomputable def d81 (N : Nat) (κ : Oracles) (args : List AV) (S : St) : R := match args with | [v0] => s81 N κ v0 S | _ => runF (Cs N) κ false 81 args S
theorem q81 (N : Nat) (κ : Oracles) (args : List AV) (S : St) : d81 N κ args S = runF (Cs N) κ false 81 args S := by
  unfold d81
  split
  · exact (e81 N κ _ S).symm
  · rfl
noncomputable def d82 (N : Nat) (κ : Oracles) (args : List AV) (S : St) : R := match args with | [v0] => s82 N κ v0 S | _ => runF (Cs N) κ false 82 args S
theorem q82 (N : Nat) (κ : Oracles) (args : List AV) (S : St) : d82 N κ args S = runF (Cs N) κ false 82 args S := by
  unfold d82
  split
  · exact (e82 N κ _ S).symm
  · rfl
noncomputable def d83 (N : Nat) (κ : Oracles) (args : List AV) (S : St) : R := match args with | [v0] => s83 N κ v0 S | _ => runF (Cs N) κ false 83 args S
theorem q83 (N : Nat) (κ : Oracles) (args : List AV) (S : St) : d83 N κ args S = runF (Cs N) κ false 83 args S := by
  unfold d83
  split
  · exact (e83 N κ _ S).symm
  · rfl
noncomputable def d84 (N : Nat) (κ : Oracles) (args : List AV) (S : St) : R := match args with | [v0] => s84 N κ v0 S | _ => runF (Cs N) κ false 84 args S
theorem q84 (N : Nat) (κ : Oracles) (args : List AV) (S : St) : d84 N κ args S = runF (Cs N) κ false 84 args S := by
  unfold d84
  split
  · exact (e84 N κ _ S).symm
  · rfl
noncomputable def d85 (N : Nat) (κ : Oracles) (args : List AV) (S : St) : R := match args with | [v0] => s85 N κ v0 S | _ => runF (Cs N) κ false 85 args S
theorem q85 (N : Nat) (κ : Oracles) (args : List AV) (S : St) : d85 N κ args S = runF (Cs N) κ false 85 args S := by
  unfold d85
  split
  · exact (e85 N κ _ S).symm
  · rfl
noncomputable def d86 (N : Nat) (κ : Oracles) (args : List AV) (S : St) : R := match args with | [v0] => s86 N κ v0 S | _ => runF (Cs N) κ false 86 args S
theorem q86 (N : Nat) (κ : Oracles) (args : List AV) (S : St) : d86 N κ args S = runF (Cs N) κ false 86 args S := by
  unfold d86
  split
  · exact (e86 N κ _ S).symm
  · rfl
noncomputable def d87 (N : Nat) (κ : Oracles) (args : List AV) (S : St) : R := match args with | [v0] => s87 N κ v0 S | _ => runF (Cs N) κ false 87 args S
theorem q87 (N : Nat) (κ : Oracles) (args : List AV) (S : St) : d87 N κ args S = runF (Cs N) κ false 87 args S := by
  unfold d87
  split
  · exact (e87 N κ _ S).symm
  · rfl
noncomputable def d88 (N : Nat) (κ : Oracles) (args : List AV) (S : St) : R := match args with | [v0, v1, v2] => s88 N κ v0 v1 v2 S | _ => runF (Cs N) κ false 88 args S
theorem q88 (N : Nat) (κ : Oracles) (args : List AV) (S : St) : d88 N κ args S = runF (Cs N) κ false 88 args S := by
  unfold d88
  split
  · exact (e88 N κ _ _ _ S).symm
  · rfl
noncomputable def d89 (N : Nat) (κ : Oracles) (args : List AV) (S : St) : R := match args with | [v0] => s89 N κ v0 S | _ => runF (Cs N) κ false 89 args S
theorem q89 (N : Nat) (κ : Oracles) (args : List AV) (S : St) : d89 N κ args S = runF (Cs N) κ false 89 args S := by
  unfold d89
  split
  · exact (e89 N κ _ S).symm
  · rfl
noncomputable def d90 (N : Nat) (κ : Oracles) (args : List AV) (S : St) : R := match args with | [v0] => s90 N κ v0 S | _ => runF (Cs N) κ false 90 args S
theorem q90 (N : Nat) (κ : Oracles) (args : List AV) (S : St) : d90 N κ args S = runF (Cs N) κ false 90 args S := by
  unfold d90
  split
  · exact (e90 N κ _ S).symm
  · rfl
noncomputable def d91 (N : Nat) (κ : Oracles) (args : List AV) (S : St) : R := match args with | [v0] => s91 N κ v0 S | _ => runF (Cs N) κ false 91 args S
theorem q91 (N : Nat) (κ : Oracles) (args : List AV) (S : St) : d91 N κ args S = runF (Cs N) κ false 91 args S := by
  unfold d91
  split
  · exact (e91 N κ _ S).symm
  · rfl
noncomputable def d92 (N : Nat) (κ : Oracles) (args : List AV) (S : St) : R := match args with | [v0, v1] => s92 N κ v0 v1 S | _ => runF (Cs N) κ false 92 args S
theorem q92 (N : Nat) (κ : Oracles) (args : List AV) (S : St) : d92 N κ args S = runF (Cs N) κ false 92 args S := by
  unfold d92
  split
  · exact (e92 N κ _ _ S).symm
  · rfl
noncomputable def d93 (N : Nat) (κ : Oracles) (args : List AV) (S : St) : R := match args with | [v0] => s93 N κ v0 S | _ => runF (Cs N) κ false 93 args S
theorem q93 (N : Nat) (κ : Oracles) (args : List AV) (S : St) : d93 N κ args S = runF (Cs N) κ false 93 args S := by
  unfold d93
  split
  · exact (e93 N κ _ S).symm
  · rfl
noncomputable def d94 (N : Nat) (κ : Oracles) (args : List AV) (S : St) : R := match args with | [v0] => s94 N κ v0 S | _ => runF (Cs N) κ false 94 args S
theorem q94 (N : Nat) (κ : Oracles) (args : List AV) (S : St) : d94 N κ args S = runF (Cs N) κ false 94 args S := by
  unfold d94
  split
  · exact (e94 N κ _ S).symm
  · rfl
noncomputable def d95 (N : Nat) (κ : Oracles) (args : List AV) (S : St) : R := match args with | [v0] => s95 N κ v0 S | _ => runF (Cs N) κ false 95 args S
theorem q95 (N : Nat) (κ : Oracles) (args : List AV) (S : St) : d95 N κ args S = runF (Cs N) κ false 95 args S := by
  unfold d95
  split
  · exact (e95 N κ _ S).symm
  · rfl
noncomputable def d96 (N : Nat) (κ : Oracles) (args : List AV) (S : St) : R := match args with | [v0] => s96 N κ v0 S | _ => runF (Cs N) κ false 96 args S
theorem q96 (N : Nat) (κ : Oracles) (args : List AV) (S : St) : d96 N κ args S = runF (Cs N) κ false 96 args S := by
  unfold d96
  split
  · exact (e96 N κ _ S).symm
  · rfl
noncomputable def d97 (N : Nat) (κ : Oracles) (args : List AV) (S : St) : R := match args with | [v0] => s97 N κ v0 S | _ => runF (Cs N) κ false 97 args S
theorem q97 (N : Nat) (κ : Oracles) (args : List AV) (S : St) : d97 N κ args S = runF (Cs N) κ false 97 args S := by
  unfold d97
  split
  · exact (e97 N κ _ S).symm
  · rfl
noncomputable def d99 (N : Nat) (κ : Oracles) (args : List AV) (S : St) : R := match args with | [v0] => s99 N κ v0 S | _ => runF (Cs N) κ false 99 args S
theorem q99 (N : Nat) (κ : Oracles) (args : List AV) (S : St) : d99 N κ args S = runF (Cs N) κ false 99 args S := by
  unfold d99
  split
  · exact (e99 N κ _ S).symm
  · rfl
noncomputable def d101 (N : Nat) (κ : Oracles) (args : List AV) (S : St) : R := match args with | [v0, v1] => s101 N κ v0 v1 S | _ => runF (Cs N) κ false 101 args S
theorem q101 (N : Nat) (κ : Oracles) (args : List AV) (S : St) : d101 N κ args S = runF (Cs N) κ false 101 args S := by
  unfold d101
  split
  · exact (e101 N κ _ _ S).symm
  · rfl
noncomputable def d102 (N : Nat) (κ : Oracles) (args : List AV) (S : St) : R := match args with | [v0, v1] => s102 N κ v0 v1 S | _ => runF (Cs N) κ false 102 args S
theorem q102 (N : Nat) (κ : Oracles) (args : List AV) (S : St) : d102 N κ args S = runF (Cs N) κ false 102 args S := by
  unfold d102
  split
  · exact (e102 N κ _ _ S).symm
  · rfl
noncomputable def d103 (N : Nat) (κ : Oracles) (args : List AV) (S : St) : R := match args with | [v0] => s103 N κ v0 S | _ => runF (Cs N) κ false 103 args S
theorem q103 (N : Nat) (κ : Oracles) (args : List AV) (S : St) : d103 N κ args S = runF (Cs N) κ false 103 args S := by
  unfold d103
  split
  · exact (e103 N κ _ S).symm
  · rfl
noncomputable def d104 (N : Nat) (κ : Oracles) (args : List AV) (S : St) : R := match args with | [v0, v1, v2] => s104 N κ v0 v1 v2 S | _ => runF (Cs N) κ false 104 args S
theorem q104 (N : Nat) (κ : Oracles) (args : List AV) (S : St) : d104 N κ args S = runF (Cs N) κ false 104 args S := by
  unfold d104
  split
  · exact (e104 N κ _ _ _ S).symm
  · rfl
noncomputable def d105 (N : Nat) (κ : Oracles) (args : List AV) (S : St) : R := match args with | [v0] => s105 N κ v0 S | _ => runF (Cs N) κ false 105 args S
theorem q105 (N : Nat) (κ : Oracles) (args : List AV) (S : St) : d105 N κ args S = runF (Cs N) κ false 105 args S := by
  unfold d105
  split
  · exact (e105 N κ _ S).symm
  · rfl
noncomputable def d106 (N : Nat) (κ : Oracles) (args : List AV) (S : St) : R := match args with | [v0] => s106 N κ v0 S | _ => runF (Cs N) κ false 106 args S
theorem q106 (N : Nat) (κ : Oracles) (args : List AV) (S : St) : d106 N κ args S = runF (Cs N) κ false 106 args S := by
  unfold d106
  split
  · exact (e106 N κ _ S).symm
  · rfl
noncomputable def d107 (N : Nat) (κ : Oracles) (args : List AV) (S : St) : R := match args with | [v0, v1, v2, v3] => s107 N κ v0 v1 v2 v3 S | _ => runF (Cs N) κ false 107 args S
theorem q107 (N : Nat) (κ : Oracles) (args : List AV) (S : St) : d107 N κ args S = runF (Cs N) κ false 107 args S := by
  unfold d107
  split
  · exact (e107 N κ _ _ _ _ S).symm
  · rfl
noncomputable def d108 (N : Nat) (κ : Oracles) (args : List AV) (S : St) : R := match args with | [v0] => s108 N κ v0 S | _ => runF (Cs N) κ false 108 args S
theorem q108 (N : Nat) (κ : Oracles) (args : List AV) (S : St) : d108 N κ args S = runF (Cs N) κ false 108 args S := by
  unfold d108
  split
  · exact (e108 N κ _ S).symm
  · rfl
noncomputable def d110 (N : Nat) (κ : Oracles) (args : List AV) (S : St) : R := match args with | [] => s110 N κ S | _ => runF (Cs N) κ false 110 args S
theorem q110 (N : Nat) (κ : Oracles) (args : List AV) (S : St) : d110 N κ args S = runF (Cs N) κ false 110 args S := by
  unfold d110
  split
  · exact (e110 N κ S).symm
  · rfl
noncomputable def d111 (N : Nat) (κ : Oracles) (args : List AV) (S : St) : R := match args with | [v0] => s111 N κ v0 S | _ => runF (Cs N) κ false 111 args S
theorem q111 (N : Nat) (κ : Oracles) (args : List AV) (S : St) : d111 N κ args S = runF (Cs N) κ false 111 args S := by
  unfold d111
  split
  · exact (e111 N κ _ S).symm
  · rfl
noncomputable def d112 (N : Nat) (κ : Oracles) (args : List AV) (S : St) : R := match args with | [v0, v1] => s112 N κ v0 v1 S | _ => runF (Cs N) κ false 112 args S
theorem q112 (N : Nat) (κ : Oracles) (args : List AV) (S : St) : d112 N κ args S = runF (Cs N) κ false 112 args S := by
  unfold d112
  split
  · exact (e112 N κ _ _ S).symm
  · rfl
noncomputable def d113 (N : Nat) (κ : Oracles) (args : List AV) (S : St) : R := match args with | [v0, v1] => s113 N κ v0 v1 S | _ => runF (Cs N) κ false 113 args S
theorem q113 (N : Nat) (κ : Oracles) (args : List AV) (S : St) : d113 N κ args S = runF (Cs N) κ false 113 args S := by
  unfold d113
  split
  · exact (e113 N κ _ _ S).symm
  · rfl
noncomputable def d119 (N : Nat) (κ : Oracles) (args : List AV) (S : St) : R := match args with | [] => s119 N κ S | _ => runF (Cs N) κ false 119 args S
theorem q119 (N : Nat) (κ : Oracles) (args : List AV) (S : St) : d119 N κ args S = runF (Cs N) κ false 119 args S := by
  unfold d119
  split
  · exact (e119 N κ S).symm
  · rfl
noncomputable def d120 (N : Nat) (κ : Oracles) (args : List AV) (S : St) : R := match args with | [v0, v1] => s120 N κ v0 v1 S | _ => runF (Cs N) κ false 120 args S
theorem q120 (N : Nat) (κ : Oracles) (args : List AV) (S : St) : d120 N κ args S = runF (Cs N) κ false 120 args S := by
  unfold d120
  split
  · exact (e120 N κ _ _ S).symm
  · rfl
noncomputable def d121 (N : Nat) (κ : Oracles) (args : List AV) (S : St) : R := match args with | [v0] => s121 N κ v0 S | _ => runF (Cs N) κ false 121 args S
theorem q121 (N : Nat) (κ : Oracles) (args : List AV) (S : St) : d121 N κ args S = runF (Cs N) κ false 121 args S := by
  unfold d121
  split
  · exact (e121 N κ _ S).symm
  · rfl
noncomputable def d122 (N : Nat) (κ : Oracles) (args : List AV) (S : St) : R := match args with | [v0] => s122 N κ v0 S | _ => runF (Cs N) κ false 122 args S
theorem q122 (N : Nat) (κ : Oracles) (args : List AV) (S : St) : d122 N κ args S = runF (Cs N) κ false 122 args S := by
  unfold d122
  split
  · exact (e122 N κ _ S).symm
  · rfl
noncomputable def d123 (N : Nat) (κ : Oracles) (args : List AV) (S : St) : R := match args with | [v0] => s123 N κ v0 S | _ => runF (Cs N) κ false 123 args S
theorem q123 (N : Nat) (κ : Oracles) (args : List AV) (S : St) : d123 N κ args S = runF (Cs N) κ false 123 args S := by
  unfold d123
  split
  · exact (e123 N κ _ S).symm
  · rfl
noncomputable def d124 (N : Nat) (κ : Oracles) (args : List AV) (S : St) : R := match args with | [v0, v1] => s124 N κ v0 v1 S | _ => runF (Cs N) κ false 124 args S
theorem q124 (N : Nat) (κ : Oracles) (args : List AV) (S : St) : d124 N κ args S = runF (Cs N) κ false 124 args S := by
  unfold d124
  split
  · exact (e124 N κ _ _ S).symm
  · rfl
noncomputable def d126 (N : Nat) (κ : Oracles) (args : List AV) (S : St) : R := match args with | [v0] => s126 N κ v0 S | _ => runF (Cs N) κ false 126 args S
theorem q126 (N : Nat) (κ : Oracles) (args : List AV) (S : St) : d126 N κ args S = runF (Cs N) κ false 126 args S := by
  unfold d126
  split
  · exact (e126 N κ _ S).symm
  · rfl
noncomputable def d127 (N : Nat) (κ : Oracles) (args : List AV) (S : St) : R := match args with | [v0] => s127 N κ v0 S | _ => runF (Cs N) κ false 127 args S
theorem q127 (N : Nat) (κ : Oracles) (args : List AV) (S : St) : d127 N κ args S = runF (Cs N) κ false 127 args S := by
  unfold d127
  split
  · exact (e127 N κ _ S).symm
  · rfl
noncomputable def d128 (N : Nat) (κ : Oracles) (args : List AV) (S : St) : R := match args with | [v0] => s128 N κ v0 S | _ => runF (Cs N) κ false 128 args S
theorem q128 (N : Nat) (κ : Oracles) (args : List AV) (S : St) : d128 N κ args S = runF (Cs N) κ false 128 args S := by
  unfold d128
  split
  · exact (e128 N κ _ S).symm
  · rfl
noncomputable def d129 (N : Nat) (κ : Oracles) (args : List AV) (S : St) : R := match args with | [v0] => s129 N κ v0 S | _ => runF (Cs N) κ false 129 args S
theorem q129 (N : Nat) (κ : Oracles) (args : List AV) (S : St) : d129 N κ args S = runF (Cs N) κ false 129 args S := by
  unfold d129
  split
  · exact (e129 N κ _ S).symm
  · rfl
noncomputable def d132 (N : Nat) (κ : Oracles) (args : List AV) (S : St) : R := match args with | [v0, v1] => s132 N κ v0 v1 S | _ => runF (Cs N) κ false 132 args S
theorem q132 (N : Nat) (κ : Oracles) (args : List AV) (S : St) : d132 N κ args S = runF (Cs N) κ false 132 args S := by
  unfold d132
  split
  · exact (e132 N κ _ _ S).symm
  · rfl
noncomputable def d134 (N : Nat) (κ : Oracles) (args : List AV) (S : St) : R := match args with | [v0] => s134 N κ v0 S | _ => runF (Cs N) κ false 134 args S
theorem q134 (N : Nat) (κ : Oracles) (args : List AV) (S : St) : d134 N κ args S = runF (Cs N) κ false 134 args S := by
  unfold d134
  split
  · exact (e134 N κ _ S).symm
  · rfl
noncomputable def d135 (N : Nat) (κ : Oracles) (args : List AV) (S : St) : R := match args with | [v0, v1] => s135 N κ v0 v1 S | _ => runF (Cs N) κ false 135 args S
theorem q135 (N : Nat) (κ : Oracles) (args : List AV) (S : St) : d135 N κ args S = runF (Cs N) κ false 135 args S := by
  unfold d135
  split
  · exact (e135 N κ _ _ S).symm
  · rfl
noncomputable def d136 (N : Nat) (κ : Oracles) (args : List AV) (S : St) : R := match args with | [v0] => s136 N κ v0 S | _ => runF (Cs N) κ false 136 args S
theorem q136 (N : Nat) (κ : Oracles) (args : List AV) (S : St) : d136 N κ args S = runF (Cs N) κ false 136 args S := by
  unfold d136
  split
  · exact (e136 N κ _ S).symm
  · rfl
noncomputable def d137 (N : Nat) (κ : Oracles) (args : List AV) (S : St) : R := match args with | [v0, v1] => s137 N κ v0 v1 S | _ => runF (Cs N) κ false 137 args S
theorem q137 (N : Nat) (κ : Oracles) (args : List AV) (S : St) : d137 N κ args S = runF (Cs N) κ false 137 args S := by
  unfold d137
  split
  · exact (e137 N κ _ _ S).symm
  · rfl
noncomputable def d138 (N : Nat) (κ : Oracles) (args : List AV) (S : St) : R := match args with | [v0] => s138 N κ v0 S | _ => runF (Cs N) κ false 138 args S
theorem q138 (N : Nat) (κ : Oracles) (args : List AV) (S : St) : d138 N κ args S = runF (Cs N) κ false 138 args S := by
  unfold d138
  split
  · exact (e138 N κ _ S).symm
  · rfl
noncomputable def d139 (N : Nat) (κ : Oracles) (args : List AV) (S : St) : R := match args with | [v0] => s139 N κ v0 S | _ => runF (Cs N) κ false 139 args S
theorem q139 (N : Nat) (κ : Oracles) (args : List AV) (S : St) : d139 N κ args S = runF (Cs N) κ false 139 args S := by
  unfold d139
  split
  · exact (e139 N κ _ S).symm
  · rfl
noncomputable def d144 (N : Nat) (κ : Oracles) (args : List AV) (S : St) : R := match args with | [v0] => s144 N κ v0 S | _ => runF (Cs N) κ false 144 args S
theorem q144 (N : Nat) (κ : Oracles) (args : List AV) (S : St) : d144 N κ args S = runF (Cs N) κ false 144 args S := by
  unfold d144
  split
  · exact (e144 N κ _ S).symm
  · rfl
noncomputable def d158 (N : Nat) (κ : Oracles) (args : List AV) (S : St) : R := match args with | [v0] => s158 N κ v0 S | _ => runF (Cs N) κ false 158 args S
theorem q158 (N : Nat) (κ : Oracles) (args : List AV) (S : St) : d158 N κ args S = runF (Cs N) κ false 158 args S := by
  unfold d158
  split
  · exact (e158 N κ _ S).symm
  · rfl
noncomputable def d159 (N : Nat) (κ : Oracles) (args : List AV) (S : St) : R := match args with | [v0] => s159 N κ v0 S | _ => runF (Cs N) κ false 159 args S
theorem q159 (N : Nat) (κ : Oracles) (args : List AV) (S : St) : d159 N κ args S = runF (Cs N) κ false 159 args S := by
  unfold d159
  split
  · exact (e159 N κ _ S).symm
  · rfl
noncomputable def d160 (N : Nat) (κ : Oracles) (args : List AV) (S : St) : R := match args with | [v0, v1] => s160 N κ v0 v1 S | _ => runF (Cs N) κ false 160 args S
theorem q160 (N : Nat) (κ : Oracles) (args : List AV) (S : St) : d160 N κ args S = runF (Cs N) κ false 160 args S := by
  unfold d160
  split
  · exact (e160 N κ _ _ S).symm
  · rfl
noncomputable def d161 (N : Nat) (κ : Oracles) (args : List AV) (S : St) : R := match args with | [v0, v1] => s161 N κ v0 v1 S | _ => runF (Cs N) κ false 161 args S
theorem q161 (N : Nat) (κ : Oracles) (args : List AV) (S : St) : d161 N κ args S = runF (Cs N) κ false 161 args S := by
  unfold d161
  split
  · exact (e161 N κ _ _ S).symm
  · rfl
noncomputable def d162 (N : Nat) (κ : Oracles) (args : List AV) (S : St) : R := match args with | [v0, v1, v2] => s162 N κ v0 v1 v2 S | _ => runF (Cs N) κ false 162 args S
theorem q162 (N : Nat) (κ : Oracles) (args : List AV) (S : St) : d162 N κ args S = runF (Cs N) κ false 162 args S := by
  unfold d162
  split
  · exact (e162 N κ _ _ _ S).symm
  · rfl
noncomputable def d163 (N : Nat) (κ : Oracles) (args : List AV) (S : St) : R := match args with | [v0, v1] => s163 N κ v0 v1 S | _ => runF (Cs N) κ false 163 args S
theorem q163 (N : Nat) (κ : Oracles) (args : List AV) (S : St) : d163 N κ args S = runF (Cs N) κ false 163 args S := by
  unfold d163
  split
  · exact (e163 N κ _ _ S).symm
  · rfl
noncomputable def d164 (N : Nat) (κ : Oracles) (args : List AV) (S : St) : R := match args with | [v0, v1] => s164 N κ v0 v1 S | _ => runF (Cs N) κ false 164 args S
theorem q164 (N : Nat) (κ : Oracles) (args : List AV) (S : St) : d164 N κ args S = runF (Cs N) κ false 164 args S := by
  unfold d164
  split
  · exact (e164 N κ _ _ S).symm
  · rfl
noncomputable def d165 (N : Nat) (κ : Oracles) (args : List AV) (S : St) : R := match args with | [] => s165 N κ S | _ => runF (Cs N) κ false 165 args S
theorem q165 (N : Nat) (κ : Oracles) (args : List AV) (S : St) : d165 N κ args S = runF (Cs N) κ false 165 args S := by
  unfold d165
  split
  · exact (e165 N κ S).symm
  · rfl
noncomputable def d167 (N : Nat) (κ : Oracles) (args : List AV) (S : St) : R := match args with | [v0] => s167 N κ v0 S | _ => runF (Cs N) κ false 167 args S
theorem q167 (N : Nat) (κ : Oracles) (args : List AV) (S : St) : d167 N κ args S = runF (Cs N) κ false 167 args S := by
  unfold d167
  split
  · exact (e167 N κ _ S).symm
  · rfl
noncomputable def d168 (N : Nat) (κ : Oracles) (args : List AV) (S : St) : R := match args with | [v0, v1, v2] => s168 N κ v0 v1 v2 S | _ => runF (Cs N) κ false 168 args S
theorem q168 (N : Nat) (κ : Oracles) (args : List AV) (S : St) : d168 N κ args S = runF (Cs N) κ false 168 args S := by
  unfold d168
  split
  · exact (e168 N κ _ _ _ S).symm
  · rfl
noncomputable def d169 (N : Nat) (κ : Oracles) (args : List AV) (S : St) : R := match args with | [v0] => s169 N κ v0 S | _ => runF (Cs N) κ false 169 args S
theorem q169 (N : Nat) (κ : Oracles) (args : List AV) (S : St) : d169 N κ args S = runF (Cs N) κ false 169 args S := by
  unfold d169
  split
  · exact (e169 N κ _ S).symm
  · rfl
noncomputable def d171 (N : Nat) (κ : Oracles) (args : List AV) (S : St) : R := match args with | [v0] => s171 N κ v0 S | _ => runF (Cs N) κ false 171 args S
theorem q171 (N : Nat) (κ : Oracles) (args : List AV) (S : St) : d171 N κ args S = runF (Cs N) κ false 171 args S := by
  unfold d171
  split
  · exact (e171 N κ _ S).symm
  · rfl
noncomputable def d172 (N : Nat) (κ : Oracles) (args : List AV) (S : St) : R := match args with | [v0, v1, v2] => s172 N κ v0 v1 v2 S | _ => runF (Cs N) κ false 172 args S
theorem q172 (N : Nat) (κ : Oracles) (args : List AV) (S : St) : d172 N κ args S = runF (Cs N) κ false 172 args S := by
  unfold d172
  split
  · exact (e172 N κ _ _ _ S).symm
  · rfl
noncomputable def d173 (N : Nat) (κ : Oracles) (args : List AV) (S : St) : R := match args with | [v0, v1] => s173 N κ v0 v1 S | _ => runF (Cs N) κ false 173 args S
theorem q173 (N : Nat) (κ : Oracles) (args : List AV) (S : St) : d173 N κ args S = runF (Cs N) κ false 173 args S := by
  unfold d173
  split
  · exact (e173 N κ _ _ S).symm
  · rfl
noncomputable def d174 (N : Nat) (κ : Oracles) (args : List AV) (S : St) : R := match args with | [v0, v1] => s174 N κ v0 v1 S | _ => runF (Cs N) κ false 174 args S
theorem q174 (N : Nat) (κ : Oracles) (args : List AV) (S : St) : d174 N κ args S = runF (Cs N) κ false 174 args S := by
  unfold d174
  split
  · exact (e174 N κ _ _ S).symm
  · rfl
noncomputable def d176 (N : Nat) (κ : Oracles) (args : List AV) (S : St) : R := match args with | [v0] => s176 N κ v0 S | _ => runF (Cs N) κ false 176 args S
theorem q176 (N : Nat) (κ : Oracles) (args : List AV) (S : St) : d176 N κ args S = runF (Cs N) κ false 176 args S := by
  unfold d176
  split
  · exact (e176 N κ _ S).symm
  · rfl
noncomputable def d177 (N : Nat) (κ : Oracles) (args : List AV) (S : St) : R := match args with | [v0] => s177 N κ v0 S | _ => runF (Cs N) κ false 177 args S
theorem q177 (N : Nat) (κ : Oracles) (args : List AV) (S : St) : d177 N κ args S = runF (Cs N) κ false 177 args S := by
  unfold d177
  split
  · exact (e177 N κ _ S).symm
  · rfl
noncomputable def d178 (N : Nat) (κ : Oracles) (args : List AV) (S : St) : R := match args with | [v0] => s178 N κ v0 S | _ => runF (Cs N) κ false 178 args S
theorem q178 (N : Nat) (κ : Oracles) (args : List AV) (S : St) : d178 N κ args S = runF (Cs N) κ false 178 args S := by
  unfold d178
  split
  · exact (e178 N κ _ S).symm
  · rfl
noncomputable def d179 (N : Nat) (κ : Oracles) (args : List AV) (S : St) : R := match args with | [v0] => s179 N κ v0 S | _ => runF (Cs N) κ false 179 args S
theorem q179 (N : Nat) (κ : Oracles) (args : List AV) (S : St) : d179 N κ args S = runF (Cs N) κ false 179 args S := by
  unfold d179
  split
  · exact (e179 N κ _ S).symm
  · rfl
noncomputable def d180 (N : Nat) (κ : Oracles) (args : List AV) (S : St) : R := match args with | [v0] => s180 N κ v0 S | _ => runF (Cs N) κ false 180 args S
theorem q180 (N : Nat) (κ : Oracles) (args : List AV) (S : St) : d180 N κ args S = runF (Cs N) κ false 180 args S := by
  unfold d180
  split
  · exact (e180 N κ _ S).symm
  · rfl
noncomputable def d181 (N : Nat) (κ : Oracles) (args : List AV) (S : St) : R := match args with | [v0, v1] => s181 N κ v0 v1 S | _ => runF (Cs N) κ false 181 args S
theorem q181 (N : Nat) (κ : Oracles) (args : List AV) (S : St) : d181 N κ args S = runF (Cs N) κ false 181 args S := by
  unfold d181
  split
  · exact (e181 N κ _ _ S).symm
  · rfl
noncomputable def d182 (N : Nat) (κ : Oracles) (args : List AV) (S : St) : R := match args with | [v0, v1, v2, v3] => s182 N κ v0 v1 v2 v3 S | _ => runF (Cs N) κ false 182 args S
theorem q182 (N : Nat) (κ : Oracles) (args : List AV) (S : St) : d182 N κ args S = runF (Cs N) κ false 182 args S := by
  unfold d182
  split
  · exact (e182 N κ _ _ _ _ S).symm
  · rfl
noncomputable def d183 (N : Nat) (κ : Oracles) (args : List AV) (S : St) : R := match args with | [v0, v1] => s183 N κ v0 v1 S | _ => runF (Cs N) κ false 183 args S
theorem q183 (N : Nat) (κ : Oracles) (args : List AV) (S : St) : d183 N κ args S = runF (Cs N) κ false 183 args S := by
  unfold d183
  split
  · exact (e183 N κ _ _ S).symm
  · rfl
noncomputable def d186 (N : Nat) (κ : Oracles) (args : List AV) (S : St) : R := match args with | [v0, v1] => s186 N κ v0 v1 S | _ => runF (Cs N) κ false 186 args S
theorem q186 (N : Nat) (κ : Oracles) (args : List AV) (S : St) : d186 N κ args S = runF (Cs N) κ false 186 args S := by
  unfold d186
  split
  · exact (e186 N κ _ _ S).symm
  · rfl
noncomputable def d187 (N : Nat) (κ : Oracles) (args : List AV) (S : St) : R := match args with | [v0] => s187 N κ v0 S | _ => runF (Cs N) κ false 187 args S
theorem q187 (N : Nat) (κ : Oracles) (args : List AV) (S : St) : d187 N κ args S = runF (Cs N) κ false 187 args S := by
  unfold d187
  split
  · exact (e187 N κ _ S).symm
  · rfl
noncomputable def d192 (N : Nat) (κ : Oracles) (args : List AV) (S : St) : R := match args with | [v0] => s192 N κ v0 S | _ => runF (Cs N) κ false 192 args S
theorem q192 (N : Nat) (κ : Oracles) (args : List AV) (S : St) : d192 N κ args S = runF (Cs N) κ false 192 args S := by
  unfold d192
  split
  · exact (e192 N κ _ S).symm
  · rfl
noncomputable def d193 (N : Nat) (κ : Oracles) (args : List AV) (S : St) : R := match args with | [v0, v1] => s193 N κ v0 v1 S | _ => runF (Cs N) κ false 193 args S
theorem q193 (N : Nat) (κ : Oracles) (args : List AV) (S : St) : d193 N κ args S = runF (Cs N) κ false 193 args S := by
  unfold d193
  split
  · exact (e193 N κ _ _ S).symm
  · rfl
noncomputable def d194 (N : Nat) (κ : Oracles) (args : List AV) (S : St) : R := match args with | [v0, v1] => s194 N κ v0 v1 S | _ => runF (Cs N) κ false 194 args S
theorem q194 (N : Nat) (κ : Oracles) (args : List AV) (S : St) : d194 N κ args S = runF (Cs N) κ false 194 args S := by
  unfold d194
  split
  · exact (e194 N κ _ _ S).symm
  · rfl
noncomputable def d196 (N : Nat) (κ : Oracles) (args : List AV) (S : St) : R := match args with | [v0] => s196 N κ v0 S | _ => runF (Cs N) κ false 196 args S
theorem q196 (N : Nat) (κ : Oracles) (args : List AV) (S : St) : d196 N κ args S = runF (Cs N) κ false 196 args S := by
  unfold d196
  split
  · exact (e196 N κ _ S).symm
  · rfl
noncomputable def d197 (N : Nat) (κ : Oracles) (args : List AV) (S : St) : R := match args with | [v0] => s197 N κ v0 S | _ => runF (Cs N) κ false 197 args S
theorem q197 (N : Nat) (κ : Oracles) (args : List AV) (S : St) : d197 N κ args S = runF (Cs N) κ false 197 args S := by
  unfold d197
  split
  · exact (e197 N κ _ S).symm
  · rfl
noncomputable def d198 (N : Nat) (κ : Oracles) (args : List AV) (S : St) : R := match args with | [v0] => s198 N κ v0 S | _ => runF (Cs N) κ false 198 args S
theorem q198 (N : Nat) (κ : Oracles) (args : List AV) (S : St) : d198 N κ args S = runF (Cs N) κ false 198 args S := by
  unfold d198
  split
  · exact (e198 N κ _ S).symm
  · rfl
noncomputable def d199 (N : Nat) (κ : Oracles) (args : List AV) (S : St) : R := match args with | [v0] => s199 N κ v0 S | _ => runF (Cs N) κ false 199 args S
theorem q199 (N : Nat) (κ : Oracles) (args : List AV) (S : St) : d199 N κ args S = runF (Cs N) κ false 199 args S := by
  unfold d199
  split
  · exact (e199 N κ _ S).symm
  · rfl
noncomputable def d200 (N : Nat) (κ : Oracles) (args : List AV) (S : St) : R := match args with | [v0] => s200 N κ v0 S | _ => runF (Cs N) κ false 200 args S
theorem q200 (N : Nat) (κ : Oracles) (args : List AV) (S : St) : d200 N κ args S = runF (Cs N) κ false 200 args S := by
  unfold d200
  split
  · exact (e200 N κ _ S).symm
  · rfl
noncomputable def d202 (N : Nat) (κ : Oracles) (args : List AV) (S : St) : R := match args with | [v0] => s202 N κ v0 S | _ => runF (Cs N) κ false 202 args S
theorem q202 (N : Nat) (κ : Oracles) (args : List AV) (S : St) : d202 N κ args S = runF (Cs N) κ false 202 args S := by
  unfold d202
  split
  · exact (e202 N κ _ S).symm
  · rfl
noncomputable def d203 (N : Nat) (κ : Oracles) (args : List AV) (S : St) : R := match args with | [v0, v1] => s203 N κ v0 v1 S | _ => runF (Cs N) κ false 203 args S
theorem q203 (N : Nat) (κ : Oracles) (args : List AV) (S : St) : d203 N κ args S = runF (Cs N) κ false 203 args S := by
  unfold d203
  split
  · exact (e203 N κ _ _ S).symm
  · rfl
noncomputable def d204 (N : Nat) (κ : Oracles) (args : List AV) (S : St) : R := match args with | [v0, v1, v2] => s204 N κ v0 v1 v2 S | _ => runF (Cs N) κ false 204 args S
theorem q204 (N : Nat) (κ : Oracles) (args : List AV) (S : St) : d204 N κ args S = runF (Cs N) κ false 204 args S := by
  unfold d204
  split
  · exact (e204 N κ _ _ _ S).symm
  · rfl
noncomputable def d207 (N : Nat) (κ : Oracles) (args : List AV) (S : St) : R := match args with | [v0] => s207 N κ v0 S | _ => runF (Cs N) κ false 207 args S
theorem q207 (N : Nat) (κ : Oracles) (args : List AV) (S : St) : d207 N κ args S = runF (Cs N) κ false 207 args S := by
  unfold d207
  split
  · exact (e207 N κ _ S).symm
  · rfl
noncomputable def d208 (N : Nat) (κ : Oracles) (args : List AV) (S : St) : R := match args with | [v0, v1] => s208 N κ v0 v1 S | _ => runF (Cs N) κ false 208 args S
theorem q208 (N : Nat) (κ : Oracles) (args : List AV) (S : St) : d208 N κ args S = runF (Cs N) κ false 208 args S := by
  unfold d208
  split
  · exact (e208 N κ _ _ S).symm
  · rfl
noncomputable def d209 (N : Nat) (κ : Oracles) (args : List AV) (S : St) : R := match args with | [v0] => s209 N κ v0 S | _ => runF (Cs N) κ false 209 args S
theorem q209 (N : Nat) (κ : Oracles) (args : List AV) (S : St) : d209 N κ args S = runF (Cs N) κ false 209 args S := by
  unfold d209
  split
  · exact (e209 N κ _ S).symm
  · rfl
noncomputable def d210 (N : Nat) (κ : Oracles) (args : List AV) (S : St) : R := match args with | [v0] => s210 N κ v0 S | _ => runF (Cs N) κ false 210 args S
theorem q210 (N : Nat) (κ : Oracles) (args : List AV) (S : St) : d210 N κ args S = runF (Cs N) κ false 210 args S := by
  unfold d210
  split
  · exact (e210 N κ _ S).symm
  · rfl
noncomputable def d211 (N : Nat) (κ : Oracles) (args : List AV) (S : St) : R := match args with | [] => s211 N κ S | _ => runF (Cs N) κ false 211 args S
theorem q211 (N : Nat) (κ : Oracles) (args : List AV) (S : St) : d211 N κ args S = runF (Cs N) κ false 211 args S := by
  unfold d211
  split
  · exact (e211 N κ S).symm
  · rfl
noncomputable def d212 (N : Nat) (κ : Oracles) (args : List AV) (S : St) : R := match args with | [v0] => s212 N κ v0 S | _ => runF (Cs N) κ false 212 args S
theorem q212 (N : Nat) (κ : Oracles) (args : List AV) (S : St) : d212 N κ args S = runF (Cs N) κ false 212 args S := by
  unfold d212
  split
  · exact (e212 N κ _ S).symm
  · rfl
noncomputable def d213 (N : Nat) (κ : Oracles) (args : List AV) (S : St) : R := match args with | [v0] => s213 N κ v0 S | _ => runF (Cs N) κ false 213 args S
theorem q213 (N : Nat) (κ : Oracles) (args : List AV) (S : St) : d213 N κ args S = runF (Cs N) κ false 213 args S := by
  unfold d213
  split
  · exact (e213 N κ _ S).symm
  · rfl
noncomputable def d214 (N : Nat) (κ : Oracles) (args : List AV) (S : St) : R := match args with | [v0] => s214 N κ v0 S | _ => runF (Cs N) κ false 214 args S
theorem q214 (N : Nat) (κ : Oracles) (args : List AV) (S : St) : d214 N κ args S = runF (Cs N) κ false 214 args S := by
  unfold d214
  split
  · exact (e214 N κ _ S).symm
  · rfl
noncomputable def d215 (N : Nat) (κ : Oracles) (args : List AV) (S : St) : R := match args with | [v0] => s215 N κ v0 S | _ => runF (Cs N) κ false 215 args S
theorem q215 (N : Nat) (κ : Oracles) (args : List AV) (S : St) : d215 N κ args S = runF (Cs N) κ false 215 args S := by
  unfold d215
  split
  · exact (e215 N κ _ S).symm
  · rfl
noncomputable def d216 (N : Nat) (κ : Oracles) (args : List AV) (S : St) : R := match args with | [v0] => s216 N κ v0 S | _ => runF (Cs N) κ false 216 args S
theorem q216 (N : Nat) (κ : Oracles) (args : List AV) (S : St) : d216 N κ args S = runF (Cs N) κ false 216 args S := by
  unfold d216
  split
  · exact (e216 N κ _ S).symm
  · rfl
noncomputable def d217 (N : Nat) (κ : Oracles) (args : List AV) (S : St) : R := match args with | [v0, v1] => s217 N κ v0 v1 S | _ => runF (Cs N) κ false 217 args S
theorem q217 (N : Nat) (κ : Oracles) (args : List AV) (S : St) : d217 N κ args S = runF (Cs N) κ false 217 args S := by
  unfold d217
  split
  · exact (e217 N κ _ _ S).symm
  · rfl
noncomputable def d219 (N : Nat) (κ : Oracles) (args : List AV) (S : St) : R := match args with | [v0, v1] => s219 N κ v0 v1 S | _ => runF (Cs N) κ false 219 args S
theorem q219 (N : Nat) (κ : Oracles) (args : List AV) (S : St) : d219 N κ args S = runF (Cs N) κ false 219 args S := by
  unfold d219
  split
  · exact (e219 N κ _ _ S).symm
  · rfl
noncomputable def d220 (N : Nat) (κ : Oracles) (args : List AV) (S : St) : R := match args with | [v0] => s220 N κ v0 S | _ => runF (Cs N) κ false 220 args S
theorem q220 (N : Nat) (κ : Oracles) (args : List AV) (S : St) : d220 N κ args S = runF (Cs N) κ false 220 args S := by
  unfold d220
  split
  · exact (e220 N κ _ S).symm
  · rfl
noncomputable def d221 (N : Nat) (κ : Oracles) (args : List AV) (S : St) : R := match args with | [v0] => s221 N κ v0 S | _ => runF (Cs N) κ false 221 args S
theorem q221 (N : Nat) (κ : Oracles) (args : List AV) (S : St) : d221 N κ args S = runF (Cs N) κ false 221 args S := by
  unfold d221
  split
  · exact (e221 N κ _ S).symm
  · rfl
noncomputable def d223 (N : Nat) (κ : Oracles) (args : List AV) (S : St) : R := match args with | [v0] => s223 N κ v0 S | _ => runF (Cs N) κ false 223 args S
theorem q223 (N : Nat) (κ : Oracles) (args : List AV) (S : St) : d223 N κ args S = runF (Cs N) κ false 223 args S := by
  unfold d223
  split
  · exact (e223 N κ _ S).symm
  · rfl
noncomputable def d224 (N : Nat) (κ : Oracles) (args : List AV) (S : St) : R := match args with | [] => s224 N κ S | _ => runF (Cs N) κ false 224 args S
theorem q224 (N : Nat) (κ : Oracles) (args : List AV) (S : St) : d224 N κ args S = runF (Cs N) κ false 224 args S := by
  unfold d224
  split
  · exact (e224 N κ S).symm
  · rfl
noncomputable def d225 (N : Nat) (κ : Oracles) (args : List AV) (S : St) : R := match args with | [v0, v1] => s225 N κ v0 v1 S | _ => runF (Cs N) κ false 225 args S
theorem q225 (N : Nat) (κ : Oracles) (args : List AV) (S : St) : d225 N κ args S = runF (Cs N) κ false 225 args S := by
  unfold d225
  split
  · exact (e225 N κ _ _ S).symm
  · rfl
noncomputable def d226 (N : Nat) (κ : Oracles) (args : List AV) (S : St) : R := match args with | [v0] => s226 N κ v0 S | _ => runF (Cs N) κ false 226 args S
theorem q226 (N : Nat) (κ : Oracles) (args : List AV) (S : St) : d226 N κ args S = runF (Cs N) κ false 226 args S := by
  unfold d226
  split
  · exact (e226 N κ _ S).symm
  · rfl
noncomputable def d227 (N : Nat) (κ : Oracles) (args : List AV) (S : St) : R := match args with | [v0, v1, v2] => s227 N κ v0 v1 v2 S | _ => runF (Cs N) κ false 227 args S
theorem q227 (N : Nat) (κ : Oracles) (args : List AV) (S : St) : d227 N κ args S = runF (Cs N) κ false 227 args S := by
  unfold d227
  split
  · exact (e227 N κ _ _ _ S).symm
  · rfl
noncomputable def d228 (N : Nat) (κ : Oracles) (args : List AV) (S : St) : R := match args with | [v0, v1] => s228 N κ v0 v1 S | _ => runF (Cs N) κ false 228 args S
theorem q228 (N : Nat) (κ : Oracles) (args : List AV) (S : St) : d228 N κ args S = runF (Cs N) κ false 228 args S := by
  unfold d228
  split
  · exact (e228 N κ _ _ S).symm
  · rfl
noncomputable def d229 (N : Nat) (κ : Oracles) (args : List AV) (S : St) : R := match args with | [v0] => s229 N κ v0 S | _ => runF (Cs N) κ false 229 args S
theorem q229 (N : Nat) (κ : Oracles) (args : List AV) (S : St) : d229 N κ args S = runF (Cs N) κ false 229 args S := by
  unfold d229
  split
  · exact (e229 N κ _ S).symm
  · rfl
noncomputable def d230 (N : Nat) (κ : Oracles) (args : List AV) (S : St) : R := match args with | [v0, v1, v2] => s230 N κ v0 v1 v2 S | _ => runF (Cs N) κ false 230 args S
theorem q230 (N : Nat) (κ : Oracles) (args : List AV) (S : St) : d230 N κ args S = runF (Cs N) κ false 230 args S := by
  unfold d230
  split
  · exact (e230 N κ _ _ _ S).symm
  · rfl
noncomputable def d231 (N : Nat) (κ : Oracles) (args : List AV) (S : St) : R := match args with | [v0, v1] => s231 N κ v0 v1 S | _ => runF (Cs N) κ false 231 args S
theorem q231 (N : Nat) (κ : Oracles) (args : List AV) (S : St) : d231 N κ args S = runF (Cs N) κ false 231 args S := by
  unfold d231
  split
  · exact (e231 N κ _ _ S).symm
  · rfl
noncomputable def d232 (N : Nat) (κ : Oracles) (args : List AV) (S : St) : R := match args with | [v0, v1, v2] => s232 N κ v0 v1 v2 S | _ => runF (Cs N) κ false 232 args S
theorem q232 (N : Nat) (κ : Oracles) (args : List AV) (S : St) : d232 N κ args S = runF (Cs N) κ false 232 args S := by
  unfold d232
  split
  · exact (e232 N κ _ _ _ S).symm
  · rfl
noncomputable def d233 (N : Nat) (κ : Oracles) (args : List AV) (S : St) : R := match args with | [v0, v1] => s233 N κ v0 v1 S | _ => runF (Cs N) κ false 233 args S
theorem q233 (N : Nat) (κ : Oracles) (args : List AV) (S : St) : d233 N κ args S = runF (Cs N) κ false 233 args S := by
  unfold d233
  split
  · exact (e233 N κ _ _ S).symm
  · rfl
noncomputable def d234 (N : Nat) (κ : Oracles) (args : List AV) (S : St) : R := match args with | [v0] => s234 N κ v0 S | _ => runF (Cs N) κ false 234 args S
theorem q234 (N : Nat) (κ : Oracles) (args : List AV) (S : St) : d234 N κ args S = runF (Cs N) κ false 234 args S := by
  unfold d234
  split
  · exact (e234 N κ _ S).symm
  · rfl
noncomputable def d235 (N : Nat) (κ : Oracles) (args : List AV) (S : St) : R := match args with | [v0] => s235 N κ v0 S | _ => runF (Cs N) κ false 235 args S
theorem q235 (N : Nat) (κ : Oracles) (args : List AV) (S : St) : d235 N κ args S = runF (Cs N) κ false 235 args S := by
  unfold d235
  split
  · exact (e235 N κ _ S).symm
  · rfl
noncomputable def d236 (N : Nat) (κ : Oracles) (args : List AV) (S : St) : R := match args with | [v0, v1, v2, v3] => s236 N κ v0 v1 v2 v3 S | _ => runF (Cs N) κ false 236 args S
theorem q236 (N : Nat) (κ : Oracles) (args : List AV) (S : St) : d236 N κ args S = runF (Cs N) κ false 236 args S := by
  unfold d236
  split
  · exact (e236 N κ _ _ _ _ S).symm
  · rfl
noncomputable def d237 (N : Nat) (κ : Oracles) (args : List AV) (S : St) : R := match args with | [v0, v1] => s237 N κ v0 v1 S | _ => runF (Cs N) κ false 237 args S
theorem q237 (N : Nat) (κ : Oracles) (args : List AV) (S : St) : d237 N κ args S = runF (Cs N) κ false 237 args S := by
  unfold d237
  split
  · exact (e237 N κ _ _ S).symm
  · rfl
noncomputable def d238 (N : Nat) (κ : Oracles) (args : List AV) (S : St) : R := match args with | [v0] => s238 N κ v0 S | _ => runF (Cs N) κ false 238 args S
theorem q238 (N : Nat) (κ : Oracles) (args : List AV) (S : St) : d238 N κ args S = runF (Cs N) κ false 238 args S := by
  unfold d238
  split
  · exact (e238 N κ _ S).symm
  · rfl
noncomputable def d239 (N : Nat) (κ : Oracles) (args : List AV) (S : St) : R := match args with | [v0, v1] => s239 N κ v0 v1 S | _ => runF (Cs N) κ false 239 args S
theorem q239 (N : Nat) (κ : Oracles) (args : List AV) (S : St) : d239 N κ args S = runF (Cs N) κ false 239 args S := by
  unfold d239
  split
  · exact (e239 N κ _ _ S).symm
  · rfl
noncomputable def d240 (N : Nat) (κ : Oracles) (args : List AV) (S : St) : R := match args with | [v0] => s240 N κ v0 S | _ => runF (Cs N) κ false 240 args S
theorem q240 (N : Nat) (κ : Oracles) (args : List AV) (S : St) : d240 N κ args S = runF (Cs N) κ false 240 args S := by
  unfold d240
  split
  · exact (e240 N κ _ S).symm
  · rfl
noncomputable def d241 (N : Nat) (κ : Oracles) (args : List AV) (S : St) : R := match args with | [v0] => s241 N κ v0 S | _ => runF (Cs N) κ false 241 args S
theorem q241 (N : Nat) (κ : Oracles) (args : List AV) (S : St) : d241 N κ args S = runF (Cs N) κ false 241 args S := by
  unfold d241
  split
  · exact (e241 N κ _ S).symm
  · rfl
noncomputable def d244 (N : Nat) (κ : Oracles) (args : List AV) (S : St) : R := match args with | [v0, v1, v2] => s244 N κ v0 v1 v2 S | _ => runF (Cs N) κ false 244 args S
theorem q244 (N : Nat) (κ : Oracles) (args : List AV) (S : St) : d244 N κ args S = runF (Cs N) κ false 244 args S := by
  unfold d244
  split
  · exact (e244 N κ _ _ _ S).symm
  · rfl
noncomputable def d245 (N : Nat) (κ : Oracles) (args : List AV) (S : St) : R := match args with | [v0, v1] => s245 N κ v0 v1 S | _ => runF (Cs N) κ false 245 args S
theorem q245 (N : Nat) (κ : Oracles) (args : List AV) (S : St) : d245 N κ args S = runF (Cs N) κ false 245 args S := by
  unfold d245
  split
  · exact (e245 N κ _ _ S).symm
  · rfl
noncomputable def d246 (N : Nat) (κ : Oracles) (args : List AV) (S : St) : R := match args with | [v0] => s246 N κ v0 S | _ => runF (Cs N) κ false 246 args S
theorem q246 (N : Nat) (κ : Oracles) (args : List AV) (S : St) : d246 N κ args S = runF (Cs N) κ false 246 args S := by
  unfold d246
  split
  · exact (e246 N κ _ S).symm
  · rfl
noncomputable def d251 (N : Nat) (κ : Oracles) (args : List AV) (S : St) : R := match args with | [v0] => s251 N κ v0 S | _ => runF (Cs N) κ false 251 args S
theorem q251 (N : Nat) (κ : Oracles) (args : List AV) (S : St) : d251 N κ args S = runF (Cs N) κ false 251 args S := by
  unfold d251
  split
  · exact (e251 N κ _ S).symm
  · rfl
noncomputable def d254 (N : Nat) (κ : Oracles) (args : List AV) (S : St) : R := match args with | [v0, v1, v2] => s254 N κ v0 v1 v2 S | _ => runF (Cs N) κ false 254 args S
theorem q254 (N : Nat) (κ : Oracles) (args : List AV) (S : St) : d254 N κ args S = runF (Cs N) κ false 254 args S := by
  unfold d254
  split
  · exact (e254 N κ _ _ _ S).symm
  · rfl
noncomputable def d258 (N : Nat) (κ : Oracles) (args : List AV) (S : St) : R := match args with | [v0] => s258 N κ v0 S | _ => runF (Cs N) κ false 258 args S
theorem q258 (N : Nat) (κ : Oracles) (args : List AV) (S : St) : d258 N κ args S = runF (Cs N) κ false 258 args S := by
  unfold d258
  split
  · exact (e258 N κ _ S).symm
  · rfl
noncomputable def d259 (N : Nat) (κ : Oracles) (args : List AV) (S : St) : R := match args with | [v0, v1] => s259 N κ v0 v1 S | _ => runF (Cs N) κ false 259 args S
theorem q259 (N : Nat) (κ : Oracles) (args : List AV) (S : St) : d259 N κ args S = runF (Cs N) κ false 259 args S := by
  unfold d259
  split
  · exact (e259 N κ _ _ S).symm
  · rfl
noncomputable def d260 (N : Nat) (κ : Oracles) (args : List AV) (S : St) : R := match args with | [v0, v1, v2] => s260 N κ v0 v1 v2 S | _ => runF (Cs N) κ false 260 args S
theorem q260 (N : Nat) (κ : Oracles) (args : List AV) (S : St) : d260 N κ args S = runF (Cs N) κ false 260 args S := by
  unfold d260
  split
  · exact (e260 N κ _ _ _ S).symm
  · rfl
noncomputable def d270 (N : Nat) (κ : Oracles) (args : List AV) (S : St) : R := match args with | [v0] => s270 N κ v0 S | _ => runF (Cs N) κ false 270 args S
theorem q270 (N : Nat) (κ : Oracles) (args : List AV) (S : St) : d270 N κ args S = runF (Cs N) κ false 270 args S := by
  unfold d270
  split
  · exact (e270 N κ _ S).symm
  · rfl
noncomputable def d271 (N : Nat) (κ : Oracles) (args : List AV) (S : St) : R := match args with | [v0, v1] => s271 N κ v0 v1 S | _ => runF (Cs N) κ false 271 args S
theorem q271 (N : Nat) (κ : Oracles) (args : List AV) (S : St) : d271 N κ args S = runF (Cs N) κ false 271 args S := by
  unfold d271
  split
  · exact (e271 N κ _ _ S).symm
  · rfl
noncomputable def d273 (N : Nat) (κ : Oracles) (args : List AV) (S : St) : R := match args with | [v0] => s273 N κ v0 S | _ => runF (Cs N) κ false 273 args S
theorem q273 (N : Nat) (κ : Oracles) (args : List AV) (S : St) : d273 N κ args S = runF (Cs N) κ false 273 args S := by
  unfold d273
  split
  · exact (e273 N κ _ S).symm
  · rfl
noncomputable def d274 (N : Nat) (κ : Oracles) (args : List AV) (S : St) : R := match args with | [v0] => s274 N κ v0 S | _ => runF (Cs N) κ false 274 args S
theorem q274 (N : Nat) (κ : Oracles) (args : List AV) (S : St) : d274 N κ args S = runF (Cs N) κ false 274 args S := by
  unfold d274
  split
  · exact (e274 N κ _ S).symm
  · rfl
noncomputable def d275 (N : Nat) (κ : Oracles) (args : List AV) (S : St) : R := match args with | [v0] => s275 N κ v0 S | _ => runF (Cs N) κ false 275 args S
theorem q275 (N : Nat) (κ : Oracles) (args : List AV) (S : St) : d275 N κ args S = runF (Cs N) κ false 275 args S := by
  unfold d275
  split
  · exact (e275 N κ _ S).symm
  · rfl
noncomputable def d277 (N : Nat) (κ : Oracles) (args : List AV) (S : St) : R := match args with | [v0] => s277 N κ v0 S | _ => runF (Cs N) κ false 277 args S
theorem q277 (N : Nat) (κ : Oracles) (args : List AV) (S : St) : d277 N κ args S = runF (Cs N) κ false 277 args S := by
  unfold d277
  split
  · exact (e277 N κ _ S).symm
  · rfl
noncomputable def d278 (N : Nat) (κ : Oracles) (args : List AV) (S : St) : R := match args with | [v0, v1] => s278 N κ v0 v1 S | _ => runF (Cs N) κ false 278 args S
theorem q278 (N : Nat) (κ : Oracles) (args : List AV) (S : St) : d278 N κ args S = runF (Cs N) κ false 278 args S := by
  unfold d278
  split
  · exact (e278 N κ _ _ S).symm
  · rfl
noncomputable def d279 (N : Nat) (κ : Oracles) (args : List AV) (S : St) : R := match args with | [v0, v1] => s279 N κ v0 v1 S | _ => runF (Cs N) κ false 279 args S
theorem q279 (N : Nat) (κ : Oracles) (args : List AV) (S : St) : d279 N κ args S = runF (Cs N) κ false 279 args S := by
  unfold d279
  split
  · exact (e279 N κ _ _ S).symm
  · rfl
noncomputable def d280 (N : Nat) (κ : Oracles) (args : List AV) (S : St) : R := match args with | [v0, v1, v2, v3] => s280 N κ v0 v1 v2 v3 S | _ => runF (Cs N) κ false 280 args S
theorem q280 (N : Nat) (κ : Oracles) (args : List AV) (S : St) : d280 N κ args S = runF (Cs N) κ false 280 args S := by
  unfold d280
  split
  · exact (e280 N κ _ _ _ _ S).symm
  · rfl
noncomputable def d281 (N : Nat) (κ : Oracles) (args : List AV) (S : St) : R := match args with | [v0, v1, v2, v3, v4] => s281 N κ v0 v1 v2 v3 v4 S | _ => runF (Cs N) κ false 281 args S
theorem q281 (N : Nat) (κ : Oracles) (args : List AV) (S : St) : d281 N κ args S = runF (Cs N) κ false 281 args S := by
  unfold d281
  split
  · exact (e281 N κ _ _ _ _ _ S).symm
  · rfl
noncomputable def d282 (N : Nat) (κ : Oracles) (args : List AV) (S : St) : R := match args with | [v0] => s282 N κ v0 S | _ => runF (Cs N) κ false 282 args S
theorem q282 (N : Nat) (κ : Oracles) (args : List AV) (S : St) : d282 N κ args S = runF (Cs N) κ false 282 args S := by
  unfold d282
  split
  · exact (e282 N κ _ S).symm
  · rfl
noncomputable def d288 (N : Nat) (κ : Oracles) (args : List AV) (S : St) : R := match args with | [v0, v1, v2] => s288 N κ v0 v1 v2 S | _ => runF (Cs N) κ false 288 args S
theorem q288 (N : Nat) (κ : Oracles) (args : List AV) (S : St) : d288 N κ args S = runF (Cs N) κ false 288 args S := by
  unfold d288
  split
  · exact (e288 N κ _ _ _ S).symm
  · rfl
noncomputable def d289 (N : Nat) (κ : Oracles) (args : List AV) (S : St) : R := match args with | [v0] => s289 N κ v0 S | _ => runF (Cs N) κ false 289 args S
theorem q289 (N : Nat) (κ : Oracles) (args : List AV) (S : St) : d289 N κ args S = runF (Cs N) κ false 289 args S := by
  unfold d289
  split
  · exact (e289 N κ _ S).symm
  · rfl
noncomputable def d290 (N : Nat) (κ : Oracles) (args : List AV) (S : St) : R := match args with | [v0, v1, v2] => s290 N κ v0 v1 v2 S | _ => runF (Cs N) κ false 290 args S
theorem q290 (N : Nat) (κ : Oracles) (args : List AV) (S : St) : d290 N κ args S = runF (Cs N) κ false 290 args S := by
  unfold d290
  split
  · exact (e290 N κ _ _ _ S).symm
  · rfl
noncomputable def d291 (N : Nat) (κ : Oracles) (args : List AV) (S : St) : R := match args with | [v0, v1, v2] => s291 N κ v0 v1 v2 S | _ => runF (Cs N) κ false 291 args S
theorem q291 (N : Nat) (κ : Oracles) (args : List AV) (S : St) : d291 N κ args S = runF (Cs N) κ false 291 args S := by
  unfold d291
  split
  · exact (e291 N κ _ _ _ S).symm
  · rfl
noncomputable def d292 (N : Nat) (κ : Oracles) (args : List AV) (S : St) : R := match args with | [v0] => s292 N κ v0 S | _ => runF (Cs N) κ false 292 args S
theorem q292 (N : Nat) (κ : Oracles) (args : List AV) (S : St) : d292 N κ args S = runF (Cs N) κ false 292 args S := by
  unfold d292
  split
  · exact (e292 N κ _ S).symm
  · rfl
noncomputable def d294 (N : Nat) (κ : Oracles) (args : List AV) (S : St) : R := match args with | [v0] => s294 N κ v0 S | _ => runF (Cs N) κ false 294 args S
theorem q294 (N : Nat) (κ : Oracles) (args : List AV) (S : St) : d294 N κ args S = runF (Cs N) κ false 294 args S := by
  unfold d294
  split
  · exact (e294 N κ _ S).symm
  · rfl
noncomputable def d295 (N : Nat) (κ : Oracles) (args : List AV) (S : St) : R := match args with | [v0, v1] => s295 N κ v0 v1 S | _ => runF (Cs N) κ false 295 args S
theorem q295 (N : Nat) (κ : Oracles) (args : List AV) (S : St) : d295 N κ args S = runF (Cs N) κ false 295 args S := by
  unfold d295
  split
  · exact (e295 N κ _ _ S).symm
  · rfl
noncomputable def d296 (N : Nat) (κ : Oracles) (args : List AV) (S : St) : R := match args with | [v0, v1] => s296 N κ v0 v1 S | _ => runF (Cs N) κ false 296 args S
theorem q296 (N : Nat) (κ : Oracles) (args : List AV) (S : St) : d296 N κ args S = runF (Cs N) κ false 296 args S := by
  unfold d296
  split
  · exact (e296 N κ _ _ S).symm
  · rfl
noncomputable def d297 (N : Nat) (κ : Oracles) (args : List AV) (S : St) : R := match args with | [v0, v1] => s297 N κ v0 v1 S | _ => runF (Cs N) κ false 297 args S
theorem q297 (N : Nat) (κ : Oracles) (args : List AV) (S : St) : d297 N κ args S = runF (Cs N) κ false 297 args S := by
  unfold d297
  split
  · exact (e297 N κ _ _ S).symm
  · rfl
noncomputable def d300 (N : Nat) (κ : Oracles) (args : List AV) (S : St) : R := match args with | [v0, v1] => s300 N κ v0 v1 S | _ => runF (Cs N) κ false 300 args S
theorem q300 (N : Nat) (κ : Oracles) (args : List AV) (S : St) : d300 N κ args S = runF (Cs N) κ false 300 args S := by
  unfold d300
  split
  · exact (e300 N κ _ _ S).symm
  · rfl
noncomputable def d301 (N : Nat) (κ : Oracles) (args : List AV) (S : St) : R := match args with | [v0, v1] => s301 N κ v0 v1 S | _ => runF (Cs N) κ false 301 args S
theorem q301 (N : Nat) (κ : Oracles) (args : List AV) (S : St) : d301 N κ args S = runF (Cs N) κ false 301 args S := by
  unfold d301
  split
  · exact (e301 N κ _ _ S).symm
  · rfl
noncomputable def d302 (N : Nat) (κ : Oracles) (args : List AV) (S : St) : R := match args with | [v0, v1] => s302 N κ v0 v1 S | _ => runF (Cs N) κ false 302 args S
theorem q302 (N : Nat) (κ : Oracles) (args : List AV) (S : St) : d302 N κ args S = runF (Cs N) κ false 302 args S := by
  unfold d302
  split
  · exact (e302 N κ _ _ S).symm
  · rfl
noncomputable def d303 (N : Nat) (κ : Oracles) (args : List AV) (S : St) : R := match args with | [v0, v1] => s303 N κ v0 v1 S | _ => runF (Cs N) κ false 303 args S
theorem q303 (N : Nat) (κ : Oracles) (args : List AV) (S : St) : d303 N κ args S = runF (Cs N) κ false 303 args S := by
  unfold d303
  split
  · exact (e303 N κ _ _ S).symm
  · rfl
noncomputable def d304 (N : Nat) (κ : Oracles) (args : List AV) (S : St) : R := match args with | [v0, v1, v2, v3] => s304 N κ v0 v1 v2 v3 S | _ => runF (Cs N) κ false 304 args S
theorem q304 (N : Nat) (κ : Oracles) (args : List AV) (S : St) : d304 N κ args S = runF (Cs N) κ false 304 args S := by
  unfold d304
  split
  · exact (e304 N κ _ _ _ _ S).symm
  · rfl
noncomputable def d305 (N : Nat) (κ : Oracles) (args : List AV) (S : St) : R := match args with | [v0, v1] => s305 N κ v0 v1 S | _ => runF (Cs N) κ false 305 args S
theorem q305 (N : Nat) (κ : Oracles) (args : List AV) (S : St) : d305 N κ args S = runF (Cs N) κ false 305 args S := by
  unfold d305
  split
  · exact (e305 N κ _ _ S).symm
  · rfl
noncomputable def d306 (N : Nat) (κ : Oracles) (args : List AV) (S : St) : R := match args with | [v0, v1] => s306 N κ v0 v1 S | _ => runF (Cs N) κ false 306 args S
theorem q306 (N : Nat) (κ : Oracles) (args : List AV) (S : St) : d306 N κ args S = runF (Cs N) κ false 306 args S := by
  unfold d306
  split
  · exact (e306 N κ _ _ S).symm
  · rfl
noncomputable def d307 (N : Nat) (κ : Oracles) (args : List AV) (S : St) : R := match args with | [v0, v1, v2] => s307 N κ v0 v1 v2 S | _ => runF (Cs N) κ false 307 args S
theorem q307 (N : Nat) (κ : Oracles) (args : List AV) (S : St) : d307 N κ args S = runF (Cs N) κ false 307 args S := by
  unfold d307
  split
  · exact (e307 N κ _ _ _ S).symm
  · rfl
noncomputable def d308 (N : Nat) (κ : Oracles) (args : List AV) (S : St) : R := match args with | [v0, v1, v2, v3, v4, v5, v6] => s308 N κ v0 v1 v2 v3 v4 v5 v6 S | _ => runF (Cs N) κ false 308 args S
theorem q308 (N : Nat) (κ : Oracles) (args : List AV) (S : St) : d308 N κ args S = runF (Cs N) κ false 308 args S := by
  unfold d308
  split
  · exact (e308 N κ _ _ _ _ _ _ _ S).symm
  · rfl
noncomputable def d309 (N : Nat) (κ : Oracles) (args : List AV) (S : St) : R := match args with | [v0, v1] => s309 N κ v0 v1 S | _ => runF (Cs N) κ false 309 args S
theorem q309 (N : Nat) (κ : Oracles) (args : List AV) (S : St) : d309 N κ args S = runF (Cs N) κ false 309 args S := by
  unfold d309
  split
  · exact (e309 N κ _ _ S).symm
  · rfl
noncomputable def d310 (N : Nat) (κ : Oracles) (args : List AV) (S : St) : R := match args with | [] => s310 N κ S | _ => runF (Cs N) κ false 310 args S
theorem q310 (N : Nat) (κ : Oracles) (args : List AV) (S : St) : d310 N κ args S = runF (Cs N) κ false 310 args S := by
  unfold d310
  split
  · exact (e310 N κ S).symm
  · rfl
noncomputable def d313 (N : Nat) (κ : Oracles) (args : List AV) (S : St) : R := match args with | [v0, v1] => s313 N κ v0 v1 S | _ => runF (Cs N) κ false 313 args S
theorem q313 (N : Nat) (κ : Oracles) (args : List AV) (S : St) : d313 N κ args S = runF (Cs N) κ false 313 args S := by
  unfold d313
  split
  · exact (e313 N κ _ _ S).symm
  · rfl
noncomputable def d314 (N : Nat) (κ : Oracles) (args : List AV) (S : St) : R := match args with | [v0] => s314 N κ v0 S | _ => runF (Cs N) κ false 314 args S
theorem q314 (N : Nat) (κ : Oracles) (args : List AV) (S : St) : d314 N κ args S = runF (Cs N) κ false 314 args S := by
  unfold d314
  split
  · exact (e314 N κ _ S).symm
  · rfl
noncomputable def d315 (N : Nat) (κ : Oracles) (args : List AV) (S : St) : R := match args with | [v0] => s315 N κ v0 S | _ => runF (Cs N) κ false 315 args S
theorem q315 (N : Nat) (κ : Oracles) (args : List AV) (S : St) : d315 N κ args S = runF (Cs N) κ false 315 args S := by
  unfold d315
  split
  · exact (e315 N κ _ S).symm
  · rfl
noncomputable def d316 (N : Nat) (κ : Oracles) (args : List AV) (S : St) : R := match args with | [v0] => s316 N κ v0 S | _ => runF (Cs N) κ false 316 args S
theorem q316 (N : Nat) (κ : Oracles) (args : List AV) (S : St) : d316 N κ args S = runF (Cs N) κ false 316 args S := by
  unfold d316
  split
  · exact (e316 N κ _ S).symm
  · rfl
noncomputable def d317 (N : Nat) (κ : Oracles) (args : List AV) (S : St) : R := match args with | [v0] => s317 N κ v0 S | _ => runF (Cs N) κ false 317 args S
theorem q317 (N : Nat) (κ : Oracles) (args : List AV) (S : St) : d317 N κ args S = runF (Cs N) κ false 317 args S := by
  unfold d317
  split
  · exact (e317 N κ _ S).symm
  · rfl
noncomputable def d319 (N : Nat) (κ : Oracles) (args : List AV) (S : St) : R := match args with | [v0, v1] => s319 N κ v0 v1 S | _ => runF (Cs N) κ false 319 args S
theorem q319 (N : Nat) (κ : Oracles) (args : List AV) (S : St) : d319 N κ args S = runF (Cs N) κ false 319 args S := by
  unfold d319
  split
  · exact (e319 N κ _ _ S).symm
  · rfl
noncomputable def d320 (N : Nat) (κ : Oracles) (args : List AV) (S : St) : R := match args with | [v0, v1, v2, v3, v4] => s320 N κ v0 v1 v2 v3 v4 S | _ => runF (Cs N) κ false 320 args S
theorem q320 (N : Nat) (κ : Oracles) (args : List AV) (S : St) : d320 N κ args S = runF (Cs N) κ false 320 args S := by
  unfold d320
  split
  · exact (e320 N κ _ _ _ _ _ S).symm
  · rfl
noncomputable def d321 (N : Nat) (κ : Oracles) (args : List AV) (S : St) : R := match args with | [v0, v1] => s321 N κ v0 v1 S | _ => runF (Cs N) κ false 321 args S
theorem q321 (N : Nat) (κ : Oracles) (args : List AV) (S : St) : d321 N κ args S = runF (Cs N) κ false 321 args S := by
  unfold d321
  split
  · exact (e321 N κ _ _ S).symm
  · rfl
noncomputable def d322 (N : Nat) (κ : Oracles) (args : List AV) (S : St) : R := match args with | [v0] => s322 N κ v0 S | _ => runF (Cs N) κ false 322 args S
theorem q322 (N : Nat) (κ : Oracles) (args : List AV) (S : St) : d322 N κ args S = runF (Cs N) κ false 322 args S := by
  unfold d322
  split
  · exact (e322 N κ _ S).symm
  · rfl
noncomputable def d331 (N : Nat) (κ : Oracles) (args : List AV) (S : St) : R := match args with | [v0] => s331 N κ v0 S | _ => runF (Cs N) κ false 331 args S
theorem q331 (N : Nat) (κ : Oracles) (args : List AV) (S : St) : d331 N κ args S = runF (Cs N) κ false 331 args S := by
  unfold d331
  split
  · exact (e331 N κ _ S).symm
  · rfl
noncomputable def d341 (N : Nat) (κ : Oracles) (args : List AV) (S : St) : R := match args with | [v0, v1] => s341 N κ v0 v1 S | _ => runF (Cs N) κ false 341 args S
theorem q341 (N : Nat) (κ : Oracles) (args : List AV) (S : St) : d341 N κ args S = runF (Cs N) κ false 341 args S := by
  unfold d341
  split
  · exact (e341 N κ _ _ S).symm
  · rfl
noncomputable def d348 (N : Nat) (κ : Oracles) (args : List AV) (S : St) : R := match args with | [v0] => s348 N κ v0 S | _ => runF (Cs N) κ false 348 args S
theorem q348 (N : Nat) (κ : Oracles) (args : List AV) (S : St) : d348 N κ args S = runF (Cs N) κ false 348 args S := by
  unfold d348
  split
  · exact (e348 N κ _ S).symm
  · rfl
noncomputable def d349 (N : Nat) (κ : Oracles) (args : List AV) (S : St) : R := match args with | [v0] => s349 N κ v0 S | _ => runF (Cs N) κ false 349 args S
theorem q349 (N : Nat) (κ : Oracles) (args : List AV) (S : St) : d349 N κ args S = runF (Cs N) κ false 349 args S := by
  unfold d349
  split
  · exact (e349 N κ _ S).symm
  · rfl
noncomputable def d351 (N : Nat) (κ : Oracles) (args : List AV) (S : St) : R := match args with | [v0, v1] => s351 N κ v0 v1 S | _ => runF (Cs N) κ false 351 args S
theorem q351 (N : Nat) (κ : Oracles) (args : List AV) (S : St) : d351 N κ args S = runF (Cs N) κ false 351 args S := by
  unfold d351
  split
  · exact (e351 N κ _ _ S).symm
  · rfl
noncomputable def d352 (N : Nat) (κ : Oracles) (args : List AV) (S : St) : R := match args with | [v0, v1, v2] => s352 N κ v0 v1 v2 S | _ => runF (Cs N) κ false 352 args S
theorem q352 (N : Nat) (κ : Oracles) (args : List AV) (S : St) : d352 N κ args S = runF (Cs N) κ false 352 args S := by
  unfold d352
  split
  · exact (e352 N κ _ _ _ S).symm
  · rfl
noncomputable def d353 (N : Nat) (κ : Oracles) (args : List AV) (S : St) : R := match args with | [v0, v1] => s353 N κ v0 v1 S | _ => runF (Cs N) κ false 353 args S
theorem q353 (N : Nat) (κ : Oracles) (args : List AV) (S : St) : d353 N κ args S = runF (Cs N) κ false 353 args S := by
  unfold d353
  split
  · exact (e353 N κ _ _ S).symm
  · rfl
noncomputable def d355 (N : Nat) (κ : Oracles) (args : List AV) (S : St) : R := match args with | [v0] => s355 N κ v0 S | _ => runF (Cs N) κ false 355 args S
theorem q355 (N : Nat) (κ : Oracles) (args : List AV) (S : St) : d355 N κ args S = runF (Cs N) κ false 355 args S := by
  unfold d355
  split
  · exact (e355 N κ _ S).symm
  · rfl
noncomputable def d356 (N : Nat) (κ : Oracles) (args : List AV) (S : St) : R := match args with | [v0] => s356 N κ v0 S | _ => runF (Cs N) κ false 356 args S
theorem q356 (N : Nat) (κ : Oracles) (args : List AV) (S : St) : d356 N κ args S = runF (Cs N) κ false 356 args S := by
  unfold d356
  split
  · exact (e356 N κ _ S).symm
  · rfl
noncomputable def d357 (N : Nat) (κ : Oracles) (args : List AV) (S : St) : R := match args with | [v0] => s357 N κ v0 S | _ => runF (Cs N) κ false 357 args S
theorem q357 (N : Nat) (κ : Oracles) (args : List AV) (S : St) : d357 N κ args S = runF (Cs N) κ false 357 args S := by
  unfold d357
  split
  · exact (e357 N κ _ S).symm
  · rfl
noncomputable def d358 (N : Nat) (κ : Oracles) (args : List AV) (S : St) : R := match args with | [v0] => s358 N κ v0 S | _ => runF (Cs N) κ false 358 args S
theorem q358 (N : Nat) (κ : Oracles) (args : List AV) (S : St) : d358 N κ args S = runF (Cs N) κ false 358 args S := by
  unfold d358
  split
  · exact (e358 N κ _ S).symm
  · rfl
noncomputable def d359 (N : Nat) (κ : Oracles) (args : List AV) (S : St) : R := match args with | [v0] => s359 N κ v0 S | _ => runF (Cs N) κ false 359 args S
theorem q359 (N : Nat) (κ : Oracles) (args : List AV) (S : St) : d359 N κ args S = runF (Cs N) κ false 359 args S := by
  unfold d359
  split
  · exact (e359 N κ _ S).symm
  · rfl
noncomputable def d360 (N : Nat) (κ : Oracles) (args : List AV) (S : St) : R := match args with | [v0] => s360 N κ v0 S | _ => runF (Cs N) κ false 360 args S
theorem q360 (N : Nat) (κ : Oracles) (args : List AV) (S : St) : d360 N κ args S = runF (Cs N) κ false 360 args S := by
  unfold d360
  split
  · exact (e360 N κ _ S).symm
  · rfl
noncomputable def d361 (N : Nat) (κ : Oracles) (args : List AV) (S : St) : R := match args with | [v0] => s361 N κ v0 S | _ => runF (Cs N) κ false 361 args S
theorem q361 (N : Nat) (κ : Oracles) (args : List AV) (S : St) : d361 N κ args S = runF (Cs N) κ false 361 args S := by
  unfold d361
  split
  · exact (e361 N κ _ S).symm
  · rfl
noncomputable def d362 (N : Nat) (κ : Oracles) (args : List AV) (S : St) : R := match args with | [v0] => s362 N κ v0 S | _ => runF (Cs N) κ false 362 args S
theorem q362 (N : Nat) (κ : Oracles) (args : List AV) (S : St) : d362 N κ args S = runF (Cs N) κ false 362 args S := by
  unfold d362
  split
  · exact (e362 N κ _ S).symm
  · rfl
noncomputable def d363 (N : Nat) (κ : Oracles) (args : List AV) (S : St) : R := match args with | [v0] => s363 N κ v0 S | _ => runF (Cs N) κ false 363 args S
theorem q363 (N : Nat) (κ : Oracles) (args : List AV) (S : St) : d363 N κ args S = runF (Cs N) κ false 363 args S := by
  unfold d363
  split
  · exact (e363 N κ _ S).symm
  · rfl
noncomputable def d364 (N : Nat) (κ : Oracles) (args : List AV) (S : St) : R := match args with | [v0, v1] => s364 N κ v0 v1 S | _ => runF (Cs N) κ false 364 args S
theorem q364 (N : Nat) (κ : Oracles) (args : List AV) (S : St) : d364 N κ args S = runF (Cs N) κ false 364 args S := by
  unfold d364
  split
  · exact (e364 N κ _ _ S).symm
  · rfl
noncomputable def d365 (N : Nat) (κ : Oracles) (args : List AV) (S : St) : R := match args with | [v0, v1] => s365 N κ v0 v1 S | _ => runF (Cs N) κ false 365 args S
theorem q365 (N : Nat) (κ : Oracles) (args : List AV) (S : St) : d365 N κ args S = runF (Cs N) κ false 365 args S := by
  unfold d365
  split
  · exact (e365 N κ _ _ S).symm
  · rfl
noncomputable def d366 (N : Nat) (κ : Oracles) (args : List AV) (S : St) : R := match args with | [v0, v1] => s366 N κ v0 v1 S | _ => runF (Cs N) κ false 366 args S
theorem q366 (N : Nat) (κ : Oracles) (args : List AV) (S : St) : d366 N κ args S = runF (Cs N) κ false 366 args S := by
  unfold d366
  split
  · exact (e366 N κ _ _ S).symm
  · rfl
noncomputable def d367 (N : Nat) (κ : Oracles) (args : List AV) (S : St) : R := match args with | [v0, v1] => s367 N κ v0 v1 S | _ => runF (Cs N) κ false 367 args S
theorem q367 (N : Nat) (κ : Oracles) (args : List AV) (S : St) : d367 N κ args S = runF (Cs N) κ false 367 args S := by
  unfold d367
  split
  · exact (e367 N κ _ _ S).symm
  · rfl
noncomputable def d371 (N : Nat) (κ : Oracles) (args : List AV) (S : St) : R := match args with | [v0, v1] => s371 N κ v0 v1 S | _ => runF (Cs N) κ false 371 args S
theorem q371 (N : Nat) (κ : Oracles) (args : List AV) (S : St) : d371 N κ args S = runF (Cs N) κ false 371 args S := by
  unfold d371
  split
  · exact (e371 N κ _ _ S).symm
  · rfl
noncomputable def d372 (N : Nat) (κ : Oracles) (args : List AV) (S : St) : R := match args with | [v0, v1, v2, v3] => s372 N κ v0 v1 v2 v3 S | _ => runF (Cs N) κ false 372 args S
theorem q372 (N : Nat) (κ : Oracles) (args : List AV) (S : St) : d372 N κ args S = runF (Cs N) κ false 372 args S := by
  unfold d372
  split
  · exact (e372 N κ _ _ _ _ S).symm
  · rfl
noncomputable def d373 (N : Nat) (κ : Oracles) (args : List AV) (S : St) : R := match args with | [v0, v1, v2] => s373 N κ v0 v1 v2 S | _ => runF (Cs N) κ false 373 args S
theorem q373 (N : Nat) (κ : Oracles) (args : List AV) (S : St) : d373 N κ args S = runF (Cs N) κ false 373 args S := by
  unfold d373
  split
  · exact (e373 N κ _ _ _ S).symm
  · rfl
noncomputable def d376 (N : Nat) (κ : Oracles) (args : List AV) (S : St) : R := match args with | [v0, v1, v2, v3, v4] => s376 N κ v0 v1 v2 v3 v4 S | _ => runF (Cs N) κ false 376 args S
theorem q376 (N : Nat) (κ : Oracles) (args : List AV) (S : St) : d376 N κ args S = runF (Cs N) κ false 376 args S := by
  unfold d376
  split
  · exact (e376 N κ _ _ _ _ _ S).symm
  · rfl
noncomputable def d377 (N : Nat) (κ : Oracles) (args : List AV) (S : St) : R := match args with | [v0, v1, v2] => s377 N κ v0 v1 v2 S | _ => runF (Cs N) κ false 377 args S
theorem q377 (N : Nat) (κ : Oracles) (args : List AV) (S : St) : d377 N κ args S = runF (Cs N) κ false 377 args S := by
  unfold d377
  split
  · exact (e377 N κ _ _ _ S).symm
  · rfl
noncomputable def d378 (N : Nat) (κ : Oracles) (args : List AV) (S : St) : R := match args with | [v0, v1, v2] => s378 N κ v0 v1 v2 S | _ => runF (Cs N) κ false 378 args S
theorem q378 (N : Nat) (κ : Oracles) (args : List AV) (S : St) : d378 N κ args S = runF (Cs N) κ false 378 args S := by
  unfold d378
  split
  · exact (e378 N κ _ _ _ S).symm
  · rfl
noncomputable def d379 (N : Nat) (κ : Oracles) (args : List AV) (S : St) : R := match args with | [] => s379 N κ S | _ => runF (Cs N) κ false 379 args S
theorem q379 (N : Nat) (κ : Oracles) (args : List AV) (S : St) : d379 N κ args S = runF (Cs N) κ false 379 args S := by
  unfold d379
  split
  · exact (e379 N κ S).symm
  · rfl
noncomputable def d380 (N : Nat) (κ : Oracles) (args : List AV) (S : St) : R := match args with | [v0, v1] => s380 N κ v0 v1 S | _ => runF (Cs N) κ false 380 args S
theorem q380 (N : Nat) (κ : Oracles) (args : List AV) (S : St) : d380 N κ args S = runF (Cs N) κ false 380 args S := by
  unfold d380
  split
  · exact (e380 N κ _ _ S).symm
  · rfl
noncomputable def d381 (N : Nat) (κ : Oracles) (args : List AV) (S : St) : R := match args with | [v0, v1] => s381 N κ v0 v1 S | _ => runF (Cs N) κ false 381 args S
theorem q381 (N : Nat) (κ : Oracles) (args : List AV) (S : St) : d381 N κ args S = runF (Cs N) κ false 381 args S := by
  unfold d381
  split
  · exact (e381 N κ _ _ S).symm
  · rfl
noncomputable def d382 (N : Nat) (κ : Oracles) (args : List AV) (S : St) : R := match args with | [v0, v1] => s382 N κ v0 v1 S | _ => runF (Cs N) κ false 382 args S
theorem q382 (N : Nat) (κ : Oracles) (args : List AV) (S : St) : d382 N κ args S = runF (Cs N) κ false 382 args S := by
  unfold d382
  split
  · exact (e382 N κ _ _ S).symm
  · rfl
noncomputable def d387 (N : Nat) (κ : Oracles) (args : List AV) (S : St) : R := match args with | [v0, v1] => s387 N κ v0 v1 S | _ => runF (Cs N) κ false 387 args S
theorem q387 (N : Nat) (κ : Oracles) (args : List AV) (S : St) : d387 N κ args S = runF (Cs N) κ false 387 args S := by
  unfold d387
  split
  · exact (e387 N κ _ _ S).symm
  · rfl
noncomputable def d397 (N : Nat) (κ : Oracles) (args : List AV) (S : St) : R := match args with | [v0, v1] => s397 N κ v0 v1 S | _ => runF (Cs N) κ false 397 args S
theorem q397 (N : Nat) (κ : Oracles) (args : List AV) (S : St) : d397 N κ args S = runF (Cs N) κ false 397 args S := by
  unfold d397
  split
  · exact (e397 N κ _ _ S).symm
  · rfl
noncomputable def d398 (N : Nat) (κ : Oracles) (args : List AV) (S : St) : R := match args with | [v0, v1] => s398 N κ v0 v1 S | _ => runF (Cs N) κ false 398 args S
theorem q398 (N : Nat) (κ : Oracles) (args : List AV) (S : St) : d398 N κ args S = runF (Cs N) κ false 398 args S := by
  unfold d398
  split
  · exact (e398 N κ _ _ S).symm
  · rfl
noncomputable def d405 (N : Nat) (κ : Oracles) (args : List AV) (S : St) : R := match args with | [v0] => s405 N κ v0 S | _ => runF (Cs N) κ false 405 args S
theorem q405 (N : Nat) (κ : Oracles) (args : List AV) (S : St) : d405 N κ args S = runF (Cs N) κ false 405 args S := by
  unfold d405
  split
  · exact (e405 N κ _ S).symm
  · rfl
noncomputable def d406 (N : Nat) (κ : Oracles) (args : List AV) (S : St) : R := match args with | [v0, v1, v2] => s406 N κ v0 v1 v2 S | _ => runF (Cs N) κ false 406 args S
theorem q406 (N : Nat) (κ : Oracles) (args : List AV) (S : St) : d406 N κ args S = runF (Cs N) κ false 406 args S := by
  unfold d406
  split
  · exact (e406 N κ _ _ _ S).symm
  · rfl
noncomputable def d407 (N : Nat) (κ : Oracles) (args : List AV) (S : St) : R := match args with | [v0] => s407 N κ v0 S | _ => runF (Cs N) κ false 407 args S
theorem q407 (N : Nat) (κ : Oracles) (args : List AV) (S : St) : d407 N κ args S = runF (Cs N) κ false 407 args S := by
  unfold d407
  split
  · exact (e407 N κ _ S).symm
  · rfl
noncomputable def d408 (N : Nat) (κ : Oracles) (args : List AV) (S : St) : R := match args with | [v0] => s408 N κ v0 S | _ => runF (Cs N) κ false 408 args S
theorem q408 (N : Nat) (κ : Oracles) (args : List AV) (S : St) : d408 N κ args S = runF (Cs N) κ false 408 args S := by
  unfold d408
  split
  · exact (e408 N κ _ S).symm
  · rfl
noncomputable def d409 (N : Nat) (κ : Oracles) (args : List AV) (S : St) : R := match args with | [v0, v1, v2] => s409 N κ v0 v1 v2 S | _ => runF (Cs N) κ false 409 args S
theorem q409 (N : Nat) (κ : Oracles) (args : List AV) (S : St) : d409 N κ args S = runF (Cs N) κ false 409 args S := by
  unfold d409
  split
  · exact (e409 N κ _ _ _ S).symm
  · rfl
noncomputable def d410 (N : Nat) (κ : Oracles) (args : List AV) (S : St) : R := match args with | [v0, v1, v2] => s410 N κ v0 v1 v2 S | _ => runF (Cs N) κ false 410 args S
theorem q410 (N : Nat) (κ : Oracles) (args : List AV) (S : St) : d410 N κ args S = runF (Cs N) κ false 410 args S := by
  unfold d410
  split
  · exact (e410 N κ _ _ _ S).symm
  · rfl
noncomputable def d413 (N : Nat) (κ : Oracles) (args : List AV) (S : St) : R := match args with | [v0] => s413 N κ v0 S | _ => runF (Cs N) κ false 413 args S
theorem q413 (N : Nat) (κ : Oracles) (args : List AV) (S : St) : d413 N κ args S = runF (Cs N) κ false 413 args S := by
  unfold d413
  split
  · exact (e413 N κ _ S).symm
  · rfl
noncomputable def d415 (N : Nat) (κ : Oracles) (args : List AV) (S : St) : R := match args with | [v0, v1, v2, v3] => s415 N κ v0 v1 v2 v3 S | _ => runF (Cs N) κ false 415 args S
theorem q415 (N : Nat) (κ : Oracles) (args : List AV) (S : St) : d415 N κ args S = runF (Cs N) κ false 415 args S := by
  unfold d415
  split
  · exact (e415 N κ _ _ _ _ S).symm
  · rfl
noncomputable def d416 (N : Nat) (κ : Oracles) (args : List AV) (S : St) : R := match args with | [v0] => s416 N κ v0 S | _ => runF (Cs N) κ false 416 args S
theorem q416 (N : Nat) (κ : Oracles) (args : List AV) (S : St) : d416 N κ args S = runF (Cs N) κ false 416 args S := by
  unfold d416
  split
  · exact (e416 N κ _ S).symm
  · rfl
noncomputable def d417 (N : Nat) (κ : Oracles) (args : List AV) (S : St) : R := match args with | [v0, v1] => s417 N κ v0 v1 S | _ => runF (Cs N) κ false 417 args S
theorem q417 (N : Nat) (κ : Oracles) (args : List AV) (S : St) : d417 N κ args S = runF (Cs N) κ false 417 args S := by
  unfold d417
  split
  · exact (e417 N κ _ _ S).symm
  · rfl
noncomputable def d418 (N : Nat) (κ : Oracles) (args : List AV) (S : St) : R := match args with | [v0] => s418 N κ v0 S | _ => runF (Cs N) κ false 418 args S
theorem q418 (N : Nat) (κ : Oracles) (args : List AV) (S : St) : d418 N κ args S = runF (Cs N) κ false 418 args S := by
  unfold d418
  split
  · exact (e418 N κ _ S).symm
  · rfl
noncomputable def d419 (N : Nat) (κ : Oracles) (args : List AV) (S : St) : R := match args with | [v0, v1, v2] => s419 N κ v0 v1 v2 S | _ => runF (Cs N) κ false 419 args S
theorem q419 (N : Nat) (κ : Oracles) (args : List AV) (S : St) : d419 N κ args S = runF (Cs N) κ false 419 args S := by
  unfold d419
  split
  · exact (e419 N κ _ _ _ S).symm
  · rfl
noncomputable def d420 (N : Nat) (κ : Oracles) (args : List AV) (S : St) : R := match args with | [v0, v1, v2, v3] => s420 N κ v0 v1 v2 v3 S | _ => runF (Cs N) κ false 420 args S
theorem q420 (N : Nat) (κ : Oracles) (args : List AV) (S : St) : d420 N κ args S = runF (Cs N) κ false 420 args S := by
  unfold d420
  split
  · exact (e420 N κ _ _ _ _ S).symm
  · rfl
noncomputable def d421 (N : Nat) (κ : Oracles) (args : List AV) (S : St) : R := match args with | [v0] => s421 N κ v0 S | _ => runF (Cs N) κ false 421 args S
theorem q421 (N : Nat) (κ : Oracles) (args : List AV) (S : St) : d421 N κ args S = runF (Cs N) κ false 421 args S := by
  unfold d421
  split
  · exact (e421 N κ _ S).symm
  · rfl
noncomputable def d422 (N : Nat) (κ : Oracles) (args : List AV) (S : St) : R := match args with | [v0, v1] => s422 N κ v0 v1 S | _ => runF (Cs N) κ false 422 args S
theorem q422 (N : Nat) (κ : Oracles) (args : List AV) (S : St) : d422 N κ args S = runF (Cs N) κ false 422 args S := by
  unfold d422
  split
  · exact (e422 N κ _ _ S).symm
  · rfl
noncomputable def d426 (N : Nat) (κ : Oracles) (args : List AV) (S : St) : R := match args with | [v0, v1, v2, v3] => s426 N κ v0 v1 v2 v3 S | _ => runF (Cs N) κ false 426 args S
theorem q426 (N : Nat) (κ : Oracles) (args : List AV) (S : St) : d426 N κ args S = runF (Cs N) κ false 426 args S := by
  unfold d426
  split
  · exact (e426 N κ _ _ _ _ S).symm
  · rfl
noncomputable def d427 (N : Nat) (κ : Oracles) (args : List AV) (S : St) : R := match args with | [v0] => s427 N κ v0 S | _ => runF (Cs N) κ false 427 args S
theorem q427 (N : Nat) (κ : Oracles) (args : List AV) (S : St) : d427 N κ args S = runF (Cs N) κ false 427 args S := by
  unfold d427
  split
  · exact (e427 N κ _ S).symm
  · rfl
noncomputable def d428 (N : Nat) (κ : Oracles) (args : List AV) (S : St) : R := match args with | [v0, v1] => s428 N κ v0 v1 S | _ => runF (Cs N) κ false 428 args S
theorem q428 (N : Nat) (κ : Oracles) (args : List AV) (S : St) : d428 N κ args S = runF (Cs N) κ false 428 args S := by
  unfold d428
  split
  · exact (e428 N κ _ _ S).symm
  · rfl
noncomputable def d429 (N : Nat) (κ : Oracles) (args : List AV) (S : St) : R := match args with | [v0, v1] => s429 N κ v0 v1 S | _ => runF (Cs N) κ false 429 args S
theorem q429 (N : Nat) (κ : Oracles) (args : List AV) (S : St) : d429 N κ args S = runF (Cs N) κ false 429 args S := by
  unfold d429
  split
  · exact (e429 N κ _ _ S).symm
  · rfl
noncomputable def d430 (N : Nat) (κ : Oracles) (args : List AV) (S : St) : R := match args with | [v0, v1, v2] => s430 N κ v0 v1 v2 S | _ => runF (Cs N) κ false 430 args S
theorem q430 (N : Nat) (κ : Oracles) (args : List AV) (S : St) : d430 N κ args S = runF (Cs N) κ false 430 args S := by
  unfold d430
  split
  · exact (e430 N κ _ _ _ S).symm
  · rfl
noncomputable def d431 (N : Nat) (κ : Oracles) (args : List AV) (S : St) : R := match args with | [v0] => s431 N κ v0 S | _ => runF (Cs N) κ false 431 args S
theorem q431 (N : Nat) (κ : Oracles) (args : List AV) (S : St) : d431 N κ args S = runF (Cs N) κ false 431 args S := by
  unfold d431
  split
  · exact (e431 N κ _ S).symm
  · rfl
noncomputable def d432 (N : Nat) (κ : Oracles) (args : List AV) (S : St) : R := match args with | [v0, v1, v2] => s432 N κ v0 v1 v2 S | _ => runF (Cs N) κ false 432 args S
theorem q432 (N : Nat) (κ : Oracles) (args : List AV) (S : St) : d432 N κ args S = runF (Cs N) κ false 432 args S := by
  unfold d432
  split
  · exact (e432 N κ _ _ _ S).symm
  · rfl
noncomputable def d433 (N : Nat) (κ : Oracles) (args : List AV) (S : St) : R := match args with | [v0, v1, v2] => s433 N κ v0 v1 v2 S | _ => runF (Cs N) κ false 433 args S
theorem q433 (N : Nat) (κ : Oracles) (args : List AV) (S : St) : d433 N κ args S = runF (Cs N) κ false 433 args S := by
  unfold d433
  split
  · exact (e433 N κ _ _ _ S).symm
  · rfl
noncomputable def d435 (N : Nat) (κ : Oracles) (args : List AV) (S : St) : R := match args with | [v0, v1, v2] => s435 N κ v0 v1 v2 S | _ => runF (Cs N) κ false 435 args S
theorem q435 (N : Nat) (κ : Oracles) (args : List AV) (S : St) : d435 N κ args S = runF (Cs N) κ false 435 args S := by
  unfold d435
  split
  · exact (e435 N κ _ _ _ S).symm
  · rfl
noncomputable def d438 (N : Nat) (κ : Oracles) (args : List AV) (S : St) : R := match args with | [v0, v1] => s438 N κ v0 v1 S | _ => runF (Cs N) κ false 438 args S
theorem q438 (N : Nat) (κ : Oracles) (args : List AV) (S : St) : d438 N κ args S = runF (Cs N) κ false 438 args S := by
  unfold d438
  split
  · exact (e438 N κ _ _ S).symm
  · rfl
noncomputable def d439 (N : Nat) (κ : Oracles) (args : List AV) (S : St) : R := match args with | [v0, v1] => s439 N κ v0 v1 S | _ => runF (Cs N) κ false 439 args S
theorem q439 (N : Nat) (κ : Oracles) (args : List AV) (S : St) : d439 N κ args S = runF (Cs N) κ false 439 args S := by
  unfold d439
  split
  · exact (e439 N κ _ _ S).symm
  · rfl
noncomputable def d441 (N : Nat) (κ : Oracles) (args : List AV) (S : St) : R := match args with | [v0, v1] => s441 N κ v0 v1 S | _ => runF (Cs N) κ false 441 args S
theorem q441 (N : Nat) (κ : Oracles) (args : List AV) (S : St) : d441 N κ args S = runF (Cs N) κ false 441 args S := by
  unfold d441
  split
  · exact (e441 N κ _ _ S).symm
  · rfl
noncomputable def d444 (N : Nat) (κ : Oracles) (args : List AV) (S : St) : R := match args with | [v0, v1, v2] => s444 N κ v0 v1 v2 S | _ => runF (Cs N) κ false 444 args S
theorem q444 (N : Nat) (κ : Oracles) (args : List AV) (S : St) : d444 N κ args S = runF (Cs N) κ false 444 args S := by
  unfold d444
  split
  · exact (e444 N κ _ _ _ S).symm
  · rfl
noncomputable def d445 (N : Nat) (κ : Oracles) (args : List AV) (S : St) : R := match args with | [v0, v1] => s445 N κ v0 v1 S | _ => runF (Cs N) κ false 445 args S
theorem q445 (N : Nat) (κ : Oracles) (args : List AV) (S : St) : d445 N κ args S = runF (Cs N) κ false 445 args S := by
  unfold d445
  split
  · exact (e445 N κ _ _ S).symm
  · rfl
noncomputable def d446 (N : Nat) (κ : Oracles) (args : List AV) (S : St) : R := match args with | [v0, v1] => s446 N κ v0 v1 S | _ => runF (Cs N) κ false 446 args S
theorem q446 (N : Nat) (κ : Oracles) (args : List AV) (S : St) : d446 N κ args S = runF (Cs N) κ false 446 args S := by
  unfold d446
  split
  · exact (e446 N κ _ _ S).symm
  · rfl
noncomputable def d447 (N : Nat) (κ : Oracles) (args : List AV) (S : St) : R := match args with | [v0, v1, v2] => s447 N κ v0 v1 v2 S | _ => runF (Cs N) κ false 447 args S
theorem q447 (N : Nat) (κ : Oracles) (args : List AV) (S : St) : d447 N κ args S = runF (Cs N) κ false 447 args S := by
  unfold d447
  split
  · exact (e447 N κ _ _ _ S).symm
  · rfl
noncomputable def d448 (N : Nat) (κ : Oracles) (args : List AV) (S : St) : R := match args with | [v0, v1, v2] => s448 N κ v0 v1 v2 S | _ => runF (Cs N) κ false 448 args S
theorem q448 (N : Nat) (κ : Oracles) (args : List AV) (S : St) : d448 N κ args S = runF (Cs N) κ false 448 args S := by
  unfold d448
  split
  · exact (e448 N κ _ _ _ S).symm
  · rfl
noncomputable def d450 (N : Nat) (κ : Oracles) (args : List AV) (S : St) : R := match args with | [v0, v1, v2, v3, v4] => s450 N κ v0 v1 v2 v3 v4 S | _ => runF (Cs N) κ false 450 args S
theorem q450 (N : Nat) (κ : Oracles) (args : List AV) (S : St) : d450 N κ args S = runF (Cs N) κ false 450 args S := by
  unfold d450
  split
  · exact (e450 N κ _ _ _ _ _ S).symm
  · rfl
noncomputable def d452 (N : Nat) (κ : Oracles) (args : List AV) (S : St) : R := match args with | [v0] => s452 N κ v0 S | _ => runF (Cs N) κ false 452 args S
theorem q452 (N : Nat) (κ : Oracles) (args : List AV) (S : St) : d452 N κ args S = runF (Cs N) κ false 452 args S := by
  unfold d452
  split
  · exact (e452 N κ _ S).symm
  · rfl
noncomputable def d453 (N : Nat) (κ : Oracles) (args : List AV) (S : St) : R := match args with | [v0, v1] => s453 N κ v0 v1 S | _ => runF (Cs N) κ false 453 args S
theorem q453 (N : Nat) (κ : Oracles) (args : List AV) (S : St) : d453 N κ args S = runF (Cs N) κ false 453 args S := by
  unfold d453
  split
  · exact (e453 N κ _ _ S).symm
  · rfl
noncomputable def d470 (N : Nat) (κ : Oracles) (args : List AV) (S : St) : R := match args with | [v0] => s470 N κ v0 S | _ => runF (Cs N) κ false 470 args S
theorem q470 (N : Nat) (κ : Oracles) (args : List AV) (S : St) : d470 N κ args S = runF (Cs N) κ false 470 args S := by
  unfold d470
  split
  · exact (e470 N κ _ S).symm
  · rfl
noncomputable def dispC (N : Nat) (κ : Oracles) (f : FuncId) (args : List AV) (S : St) : R :=
  let d := runF (Cs N) κ false f args S
  (bif Nat.blt f 221 then (bif Nat.blt f 113 then (bif Nat.blt f 76 then (bif Nat.blt f 38 then (bif Nat.blt f 15 then (bif Nat.blt f 10 then (bif Nat.blt f 8 then (bif Nat.blt f 7 then (bif Nat.beq f 6 then d6 N κ args S else d) else (bif Nat.beq f 7 then d7 N κ args S else d)) else (bif Nat.blt f 9 then (bif Nat.beq f 8 then d8 N κ args S else d) else (bif Nat.beq f 9 then d9 N κ args S else d))) else (bif Nat.blt f 13 then (bif Nat.blt f 12 then (bif Nat.beq f 10 then d10 N κ args S else d) else (bif Nat.beq f 12 then d12 N κ args S else d)) else (bif Nat.blt f 14 then (bif Nat.beq f 13 then d13 N κ args S else d) else (bif Nat.beq f 14 then d14 N κ args S else d)))) else (bif Nat.blt f 33 then (bif Nat.blt f 31 then (bif Nat.blt f 30 then (bif Nat.beq f 15 then d15 N κ args S else d) else (bif Nat.beq f 30 then d30 N κ args S else d)) else (bif Nat.blt f 32 then (bif Nat.beq f 31 then d31 N κ args S else d) else (bif Nat.beq f 32 then d32 N κ args S else d))) else (bif Nat.blt f 35 then (bif Nat.blt f 34 then (bif Nat.beq f 33 then d33 N κ args S else d) else (bif Nat.beq f 34 then d34 N κ args S else d)) else (bif Nat.blt f 36 then (bif Nat.beq f 35 then d35 N κ args S else d) else (bif Nat.blt f 37 then (bif Nat.beq f 36 then d36 N κ args S else d) else (bif Nat.beq f 37 then d37 N κ args S else d)))))) else (bif Nat.blt f 50 then (bif Nat.blt f 46 then (bif Nat.blt f 44 then (bif Nat.blt f 40 then (bif Nat.beq f 38 then d38 N κ args S else d) else (bif Nat.beq f 40 then d40 N κ args S else d)) else (bif Nat.blt f 45 then (bif Nat.beq f 44 then d44 N κ args S else d) else (bif Nat.beq f 45 then d45 N κ args S else d))) else (bif Nat.blt f 48 then (bif Nat.blt f 47 then (bif Nat.beq f 46 then d46 N κ args S else d) else (bif Nat.beq f 47 then d47 N κ args S else d)) else (bif Nat.blt f 49 then (bif Nat.beq f 48 then d48 N κ args S else d) else (bif Nat.beq f 49 then d49 N κ args S else d)))) else (bif Nat.blt f 54 then (bif Nat.blt f 52 then (bif Nat.blt f 51 then (bif Nat.beq f 50 then d50 N κ args S else d) else (bif Nat.beq f 51 then d51 N κ args S else d)) else (bif Nat.blt f 53 then (bif Nat.beq f 52 then d52 N κ args S else d) else (bif Nat.beq f 53 then d53 N κ args S else d))) else (bif Nat.blt f 56 then (bif Nat.blt f 55 then (bif Nat.beq f 54 then d54 N κ args S else d) else (bif Nat.beq f 55 then d55 N κ args S else d)) else (bif Nat.blt f 69 then (bif Nat.beq f 56 then d56 N κ args S else d) else (bif Nat.blt f 75 then (bif Nat.beq f 69 then d69 N κ args S else d) else (bif Nat.beq f 75 then d75 N κ args S else d))))))) else (bif Nat.blt f 93 then (bif Nat.blt f 84 then (bif Nat.blt f 80 then (bif Nat.blt f 78 then (bif Nat.blt f 77 then (bif Nat.beq f 76 then d76 N κ args S else d) else (bif Nat.beq f 77 then d77 N κ args S else d)) else (bif Nat.blt f 79 then (bif Nat.beq f 78 then d78 N κ args S else d) else (bif Nat.beq f 79 then d79 N κ args S else d))) else (bif Nat.blt f 82 then (bif Nat.blt f 81 then (bif Nat.beq f 80 then d80 N κ args S else d) else (bif Nat.beq f 81 then d81 N κ args S else d)) else (bif Nat.blt f 83 then (bif Nat.beq f 82 then d82 N κ args S else d) else (bif Nat.beq f 83 then d83 N κ args S else d)))) else (bif Nat.blt f 88 then (bif Nat.blt f 86 then (bif Nat.blt f 85 then (bif Nat.beq f 84 then d84 N κ args S else d) else (bif Nat.beq f 85 then d85 N κ args S else d)) else (bif Nat.blt f 87 then (bif Nat.beq f 86 then d86 N κ args S else d) else (bif Nat.beq f 87 then d87 N κ args S else d))) else (bif Nat.blt f 90 then (bif Nat.blt f 89 then (bif Nat.beq f 88 then d88 N κ args S else d) else (bif Nat.beq f 89 then d89 N κ args S else d)) else (bif Nat.blt f 91 then (bif Nat.beq f 90 then d90 N κ args S else d) else (bif Nat.blt f 92 then (bif Nat.beq f 91 then d91 N κ args S else d) else (bif Nat.beq f 92 then d92 N κ args S else d)))))) else (bif Nat.blt f 103 then (bif Nat.blt f 97 then (bif Nat.blt f 95 then (bif Nat.blt f 94 then (bif Nat.beq f 93 then d93 N κ args S else d) else (bif Nat.beq f 94 then d94 N κ args S else d)) else (bif Nat.blt f 96 then (bif Nat.beq f 95 then d95 N κ args S else d) else (bif Nat.beq f 96 then d96 N κ args S else d))) else (bif Nat.blt f 101 then (bif Nat.blt f 99 then (bif Nat.beq f 97 then d97 N κ args S else d) else (bif Nat.beq f 99 then d99 N κ args S else d)) else (bif Nat.blt f 102 then (bif Nat.beq f 101 then d101 N κ args S else d) else (bif Nat.beq f 102 then d102 N κ args S else d)))) else (bif Nat.blt f 107 then (bif Nat.blt f 105 then (bif Nat.blt f 104 then (bif Nat.beq f 103 then d103 N κ args S else d) else (bif Nat.beq f 104 then d104 N κ args S else d)) else (bif Nat.blt f 106 then (bif Nat.beq f 105 then d105 N κ args S else d) else (bif Nat.beq f 106 then d106 N κ args S else d))) else (bif Nat.blt f 110 then (bif Nat.blt f 108 then (bif Nat.beq f 107 then d107 N κ args S else d) else (bif Nat.beq f 108 then d108 N κ args S else d)) else (bif Nat.blt f 111 then (bif Nat.beq f 110 then d110 N κ args S else d) else (bif Nat.blt f 112 then (bif Nat.beq f 111 then d111 N κ args S else d) else (bif Nat.beq f 112 then d112 N κ args S else d)))))))) else (bif Nat.blt f 176 then (bif Nat.blt f 139 then (bif Nat.blt f 127 then (bif Nat.blt f 122 then (bif Nat.blt f 120 then (bif Nat.blt f 119 then (bif Nat.beq f 113 then d113 N κ args S else d) else (bif Nat.beq f 119 then d119 N κ args S else d)) else (bif Nat.blt f 121 then (bif Nat.beq f 120 then d120 N κ args S else d) else (bif Nat.beq f 121 then d121 N κ args S else d))) else (bif Nat.blt f 124 then (bif Nat.blt f 123 then (bif Nat.beq f 122 then d122 N κ args S else d) else (bif Nat.beq f 123 then d123 N κ args S else d)) else (bif Nat.blt f 126 then (bif Nat.beq f 124 then d124 N κ args S else d) else (bif Nat.beq f 126 then d126 N κ args S else d)))) else (bif Nat.blt f 134 then (bif Nat.blt f 129 then (bif Nat.blt f 128 then (bif Nat.beq f 127 then d127 N κ args S else d) else (bif Nat.beq f 128 then d128 N κ args S else d)) else (bif Nat.blt f 132 then (bif Nat.beq f 129 then d129 N κ args S else d) else (bif Nat.beq f 132 then d132 N κ args S else d))) else (bif Nat.blt f 136 then (bif Nat.blt f 135 then (bif Nat.beq f 134 then d134 N κ args S else d) else (bif Nat.beq f 135 then d135 N κ args S else d)) else (bif Nat.blt f 137 then (bif Nat.beq f 136 then d136 N κ args S else d) else (bif Nat.blt f 138 then (bif Nat.beq f 137 then d137 N κ args S else d) else (bif Nat.beq f 138 then d138 N κ args S else d)))))) else (bif Nat.blt f 164 then (bif Nat.blt f 160 then (bif Nat.blt f 158 then (bif Nat.blt f 144 then (bif Nat.beq f 139 then d139 N κ args S else d) else (bif Nat.beq f 144 then d144 N κ args S else d)) else (bif Nat.blt f 159 then (bif Nat.beq f 158 then d158 N κ args S else d) else (bif Nat.beq f 159 then d159 N κ args S else d))) else (bif Nat.blt f 162 then (bif Nat.blt f 161 then (bif Nat.beq f 160 then d160 N κ args S else d) else (bif Nat.beq f 161 then d161 N κ args S else d)) else (bif Nat.blt f 163 then (bif Nat.beq f 162 then d162 N κ args S else d) else (bif Nat.beq f 163 then d163 N κ args S else d)))) else (bif Nat.blt f 169 then (bif Nat.blt f 167 then (bif Nat.blt f 165 then (bif Nat.beq f 164 then d164 N κ args S else d) else (bif Nat.beq f 165 then d165 N κ args S else d)) else (bif Nat.blt f 168 then (bif Nat.beq f 167 then d167 N κ args S else d) else (bif Nat.beq f 168 then d168 N κ args S else d))) else (bif Nat.blt f 172 then (bif Nat.blt f 171 then (bif Nat.beq f 169 then d169 N κ args S else d) else (bif Nat.beq f 171 then d171 N κ args S else d)) else (bif Nat.blt f 173 then (bif Nat.beq f 172 then d172 N κ args S else d) else (bif Nat.blt f 174 then (bif Nat.beq f 173 then d173 N κ args S else d) else (bif Nat.beq f 174 then d174 N κ args S else d))))))) else (bif Nat.blt f 200 then (bif Nat.blt f 186 then (bif Nat.blt f 180 then (bif Nat.blt f 178 then (bif Nat.blt f 177 then (bif Nat.beq f 176 then d176 N κ args S else d) else (bif Nat.beq f 177 then d177 N κ args S else d)) else (bif Nat.blt f 179 then (bif Nat.beq f 178 then d178 N κ args S else d) else (bif Nat.beq f 179 then d179 N κ args S else d))) else (bif Nat.blt f 182 then (bif Nat.blt f 181 then (bif Nat.beq f 180 then d180 N κ args S else d) else (bif Nat.beq f 181 then d181 N κ args S else d)) else (bif Nat.blt f 183 then (bif Nat.beq f 182 then d182 N κ args S else d) else (bif Nat.beq f 183 then d183 N κ args S else d)))) else (bif Nat.blt f 194 then (bif Nat.blt f 192 then (bif Nat.blt f 187 then (bif Nat.beq f 186 then d186 N κ args S else d) else (bif Nat.beq f 187 then d187 N κ args S else d)) else (bif Nat.blt f 193 then (bif Nat.beq f 192 then d192 N κ args S else d) else (bif Nat.beq f 193 then d193 N κ args S else d))) else (bif Nat.blt f 197 then (bif Nat.blt f 196 then (bif Nat.beq f 194 then d194 N κ args S else d) else (bif Nat.beq f 196 then d196 N κ args S else d)) else (bif Nat.blt f 198 then (bif Nat.beq f 197 then d197 N κ args S else d) else (bif Nat.blt f 199 then (bif Nat.beq f 198 then d198 N κ args S else d) else (bif Nat.beq f 199 then d199 N κ args S else d)))))) else (bif Nat.blt f 211 then (bif Nat.blt f 207 then (bif Nat.blt f 203 then (bif Nat.blt f 202 then (bif Nat.beq f 200 then d200 N κ args S else d) else (bif Nat.beq f 202 then d202 N κ args S else d)) else (bif Nat.blt f 204 then (bif Nat.beq f 203 then d203 N κ args S else d) else (bif Nat.beq f 204 then d204 N κ args S else d))) else (bif Nat.blt f 209 then (bif Nat.blt f 208 then (bif Nat.beq f 207 then d207 N κ args S else d) else (bif Nat.beq f 208 then d208 N κ args S else d)) else (bif Nat.blt f 210 then (bif Nat.beq f 209 then d209 N κ args S else d) else (bif Nat.beq f 210 then d210 N κ args S else d)))) else (bif Nat.blt f 215 then (bif Nat.blt f 213 then (bif Nat.blt f 212 then (bif Nat.beq f 211 then d211 N κ args S else d) else (bif Nat.beq f 212 then d212 N κ args S else d)) else (bif Nat.blt f 214 then (bif Nat.beq f 213 then d213 N κ args S else d) else (bif Nat.beq f 214 then d214 N κ args S else d))) else (bif Nat.blt f 217 then (bif Nat.blt f 216 then (bif Nat.beq f 215 then d215 N κ args S else d) else (bif Nat.beq f 216 then d216 N κ args S else d)) else (bif Nat.blt f 219 then (bif Nat.beq f 217 then d217 N κ args S else d) else (bif Nat.blt f 220 then (bif Nat.beq f 219 then d219 N κ args S else d) else (bif Nat.beq f 220 then d220 N κ args S else d))))))))) else (bif Nat.blt f 331 then (bif Nat.blt f 278 then (bif Nat.blt f 239 then (bif Nat.blt f 230 then (bif Nat.blt f 226 then (bif Nat.blt f 224 then (bif Nat.blt f 223 then (bif Nat.beq f 221 then d221 N κ args S else d) else (bif Nat.beq f 223 then d223 N κ args S else d)) else (bif Nat.blt f 225 then (bif Nat.beq f 224 then d224 N κ args S else d) else (bif Nat.beq f 225 then d225 N κ args S else d))) else (bif Nat.blt f 228 then (bif Nat.blt f 227 then (bif Nat.beq f 226 then d226 N κ args S else d) else (bif Nat.beq f 227 then d227 N κ args S else d)) else (bif Nat.blt f 229 then (bif Nat.beq f 228 then d228 N κ args S else d) else (bif Nat.beq f 229 then d229 N κ args S else d)))) else (bif Nat.blt f 234 then (bif Nat.blt f 232 then (bif Nat.blt f 231 then (bif Nat.beq f 230 then d230 N κ args S else d) else (bif Nat.beq f 231 then d231 N κ args S else d)) else (bif Nat.blt f 233 then (bif Nat.beq f 232 then d232 N κ args S else d) else (bif Nat.beq f 233 then d233 N κ args S else d))) else (bif Nat.blt f 236 then (bif Nat.blt f 235 then (bif Nat.beq f 234 then d234 N κ args S else d) else (bif Nat.beq f 235 then d235 N κ args S else d)) else (bif Nat.blt f 237 then (bif Nat.beq f 236 then d236 N κ args S else d) else (bif Nat.blt f 238 then (bif Nat.beq f 237 then d237 N κ args S else d) else (bif Nat.beq f 238 then d238 N κ args S else d)))))) else (bif Nat.blt f 258 then (bif Nat.blt f 245 then (bif Nat.blt f 241 then (bif Nat.blt f 240 then (bif Nat.beq f 239 then d239 N κ args S else d) else (bif Nat.beq f 240 then d240 N κ args S else d)) else (bif Nat.blt f 244 then (bif Nat.beq f 241 then d241 N κ args S else d) else (bif Nat.beq f 244 then d244 N κ args S else d))) else (bif Nat.blt f 251 then (bif Nat.blt f 246 then (bif Nat.beq f 245 then d245 N κ args S else d) else (bif Nat.beq f 246 then d246 N κ args S else d)) else (bif Nat.blt f 254 then (bif Nat.beq f 251 then d251 N κ args S else d) else (bif Nat.beq f 254 then d254 N κ args S else d)))) else (bif Nat.blt f 271 then (bif Nat.blt f 260 then (bif Nat.blt f 259 then (bif Nat.beq f 258 then d258 N κ args S else d) else (bif Nat.beq f 259 then d259 N κ args S else d)) else (bif Nat.blt f 270 then (bif Nat.beq f 260 then d260 N κ args S else d) else (bif Nat.beq f 270 then d270 N κ args S else d))) else (bif Nat.blt f 274 then (bif Nat.blt f 273 then (bif Nat.beq f 271 then d271 N κ args S else d) else (bif Nat.beq f 273 then d273 N κ args S else d)) else (bif Nat.blt f 275 then (bif Nat.beq f 274 then d274 N κ args S else d) else (bif Nat.blt f 277 then (bif Nat.beq f 275 then d275 N κ args S else d) else (bif Nat.beq f 277 then d277 N κ args S else d))))))) else (bif Nat.blt f 303 then (bif Nat.blt f 291 then (bif Nat.blt f 282 then (bif Nat.blt f 280 then (bif Nat.blt f 279 then (bif Nat.beq f 278 then d278 N κ args S else d) else (bif Nat.beq f 279 then d279 N κ args S else d)) else (bif Nat.blt f 281 then (bif Nat.beq f 280 then d280 N κ args S else d) else (bif Nat.beq f 281 then d281 N κ args S else d))) else (bif Nat.blt f 289 then (bif Nat.blt f 288 then (bif Nat.beq f 282 then d282 N κ args S else d) else (bif Nat.beq f 288 then d288 N κ args S else d)) else (bif Nat.blt f 290 then (bif Nat.beq f 289 then d289 N κ args S else d) else (bif Nat.beq f 290 then d290 N κ args S else d)))) else (bif Nat.blt f 296 then (bif Nat.blt f 294 then (bif Nat.blt f 292 then (bif Nat.beq f 291 then d291 N κ args S else d) else (bif Nat.beq f 292 then d292 N κ args S else d)) else (bif Nat.blt f 295 then (bif Nat.beq f 294 then d294 N κ args S else d) else (bif Nat.beq f 295 then d295 N κ args S else d))) else (bif Nat.blt f 300 then (bif Nat.blt f 297 then (bif Nat.beq f 296 then d296 N κ args S else d) else (bif Nat.beq f 297 then d297 N κ args S else d)) else (bif Nat.blt f 301 then (bif Nat.beq f 300 then d300 N κ args S else d) else (bif Nat.blt f 302 then (bif Nat.beq f 301 then d301 N κ args S else d) else (bif Nat.beq f 302 then d302 N κ args S else d)))))) else (bif Nat.blt f 313 then (bif Nat.blt f 307 then (bif Nat.blt f 305 then (bif Nat.blt f 304 then (bif Nat.beq f 303 then d303 N κ args S else d) else (bif Nat.beq f 304 then d304 N κ args S else d)) else (bif Nat.blt f 306 then (bif Nat.beq f 305 then d305 N κ args S else d) else (bif Nat.beq f 306 then d306 N κ args S else d))) else (bif Nat.blt f 309 then (bif Nat.blt f 308 then (bif Nat.beq f 307 then d307 N κ args S else d) else (bif Nat.beq f 308 then d308 N κ args S else d)) else (bif Nat.blt f 310 then (bif Nat.beq f 309 then d309 N κ args S else d) else (bif Nat.beq f 310 then d310 N κ args S else d)))) else (bif Nat.blt f 317 then (bif Nat.blt f 315 then (bif Nat.blt f 314 then (bif Nat.beq f 313 then d313 N κ args S else d) else (bif Nat.beq f 314 then d314 N κ args S else d)) else (bif Nat.blt f 316 then (bif Nat.beq f 315 then d315 N κ args S else d) else (bif Nat.beq f 316 then d316 N κ args S else d))) else (bif Nat.blt f 320 then (bif Nat.blt f 319 then (bif Nat.beq f 317 then d317 N κ args S else d) else (bif Nat.beq f 319 then d319 N κ args S else d)) else (bif Nat.blt f 321 then (bif Nat.beq f 320 then d320 N κ args S else d) else (bif Nat.blt f 322 then (bif Nat.beq f 321 then d321 N κ args S else d) else (bif Nat.beq f 322 then d322 N κ args S else d)))))))) else (bif Nat.blt f 406 then (bif Nat.blt f 365 then (bif Nat.blt f 356 then (bif Nat.blt f 351 then (bif Nat.blt f 348 then (bif Nat.blt f 341 then (bif Nat.beq f 331 then d331 N κ args S else d) else (bif Nat.beq f 341 then d341 N κ args S else d)) else (bif Nat.blt f 349 then (bif Nat.beq f 348 then d348 N κ args S else d) else (bif Nat.beq f 349 then d349 N κ args S else d))) else (bif Nat.blt f 353 then (bif Nat.blt f 352 then (bif Nat.beq f 351 then d351 N κ args S else d) else (bif Nat.beq f 352 then d352 N κ args S else d)) else (bif Nat.blt f 355 then (bif Nat.beq f 353 then d353 N κ args S else d) else (bif Nat.beq f 355 then d355 N κ args S else d)))) else (bif Nat.blt f 360 then (bif Nat.blt f 358 then (bif Nat.blt f 357 then (bif Nat.beq f 356 then d356 N κ args S else d) else (bif Nat.beq f 357 then d357 N κ args S else d)) else (bif Nat.blt f 359 then (bif Nat.beq f 358 then d358 N κ args S else d) else (bif Nat.beq f 359 then d359 N κ args S else d))) else (bif Nat.blt f 362 then (bif Nat.blt f 361 then (bif Nat.beq f 360 then d360 N κ args S else d) else (bif Nat.beq f 361 then d361 N κ args S else d)) else (bif Nat.blt f 363 then (bif Nat.beq f 362 then d362 N κ args S else d) else (bif Nat.blt f 364 then (bif Nat.beq f 363 then d363 N κ args S else d) else (bif Nat.beq f 364 then d364 N κ args S else d)))))) else (bif Nat.blt f 378 then (bif Nat.blt f 372 then (bif Nat.blt f 367 then (bif Nat.blt f 366 then (bif Nat.beq f 365 then d365 N κ args S else d) else (bif Nat.beq f 366 then d366 N κ args S else d)) else (bif Nat.blt f 371 then (bif Nat.beq f 367 then d367 N κ args S else d) else (bif Nat.beq f 371 then d371 N κ args S else d))) else (bif Nat.blt f 376 then (bif Nat.blt f 373 then (bif Nat.beq f 372 then d372 N κ args S else d) else (bif Nat.beq f 373 then d373 N κ args S else d)) else (bif Nat.blt f 377 then (bif Nat.beq f 376 then d376 N κ args S else d) else (bif Nat.beq f 377 then d377 N κ args S else d)))) else (bif Nat.blt f 382 then (bif Nat.blt f 380 then (bif Nat.blt f 379 then (bif Nat.beq f 378 then d378 N κ args S else d) else (bif Nat.beq f 379 then d379 N κ args S else d)) else (bif Nat.blt f 381 then (bif Nat.beq f 380 then d380 N κ args S else d) else (bif Nat.beq f 381 then d381 N κ args S else d))) else (bif Nat.blt f 397 then (bif Nat.blt f 387 then (bif Nat.beq f 382 then d382 N κ args S else d) else (bif Nat.beq f 387 then d387 N κ args S else d)) else (bif Nat.blt f 398 then (bif Nat.beq f 397 then d397 N κ args S else d) else (bif Nat.blt f 405 then (bif Nat.beq f 398 then d398 N κ args S else d) else (bif Nat.beq f 405 then d405 N κ args S else d))))))) else (bif Nat.blt f 429 then (bif Nat.blt f 417 then (bif Nat.blt f 410 then (bif Nat.blt f 408 then (bif Nat.blt f 407 then (bif Nat.beq f 406 then d406 N κ args S else d) else (bif Nat.beq f 407 then d407 N κ args S else d)) else (bif Nat.blt f 409 then (bif Nat.beq f 408 then d408 N κ args S else d) else (bif Nat.beq f 409 then d409 N κ args S else d))) else (bif Nat.blt f 415 then (bif Nat.blt f 413 then (bif Nat.beq f 410 then d410 N κ args S else d) else (bif Nat.beq f 413 then d413 N κ args S else d)) else (bif Nat.blt f 416 then (bif Nat.beq f 415 then d415 N κ args S else d) else (bif Nat.beq f 416 then d416 N κ args S else d)))) else (bif Nat.blt f 421 then (bif Nat.blt f 419 then (bif Nat.blt f 418 then (bif Nat.beq f 417 then d417 N κ args S else d) else (bif Nat.beq f 418 then d418 N κ args S else d)) else (bif Nat.blt f 420 then (bif Nat.beq f 419 then d419 N κ args S else d) else (bif Nat.beq f 420 then d420 N κ args S else d))) else (bif Nat.blt f 426 then (bif Nat.blt f 422 then (bif Nat.beq f 421 then d421 N κ args S else d) else (bif Nat.beq f 422 then d422 N κ args S else d)) else (bif Nat.blt f 427 then (bif Nat.beq f 426 then d426 N κ args S else d) else (bif Nat.blt f 428 then (bif Nat.beq f 427 then d427 N κ args S else d) else (bif Nat.beq f 428 then d428 N κ args S else d)))))) else (bif Nat.blt f 444 then (bif Nat.blt f 433 then (bif Nat.blt f 431 then (bif Nat.blt f 430 then (bif Nat.beq f 429 then d429 N κ args S else d) else (bif Nat.beq f 430 then d430 N κ args S else d)) else (bif Nat.blt f 432 then (bif Nat.beq f 431 then d431 N κ args S else d) else (bif Nat.beq f 432 then d432 N κ args S else d))) else (bif Nat.blt f 438 then (bif Nat.blt f 435 then (bif Nat.beq f 433 then d433 N κ args S else d) else (bif Nat.beq f 435 then d435 N κ args S else d)) else (bif Nat.blt f 439 then (bif Nat.beq f 438 then d438 N κ args S else d) else (bif Nat.blt f 441 then (bif Nat.beq f 439 then d439 N κ args S else d) else (bif Nat.beq f 441 then d441 N κ args S else d))))) else (bif Nat.blt f 448 then (bif Nat.blt f 446 then (bif Nat.blt f 445 then (bif Nat.beq f 444 then d444 N κ args S else d) else (bif Nat.beq f 445 then d445 N κ args S else d)) else (bif Nat.blt f 447 then (bif Nat.beq f 446 then d446 N κ args S else d) else (bif Nat.beq f 447 then d447 N κ args S else d))) else (bif Nat.blt f 452 then (bif Nat.blt f 450 then (bif Nat.beq f 448 then d448 N κ args S else d) else (bif Nat.beq f 450 then d450 N κ args S else d)) else (bif Nat.blt f 453 then (bif Nat.beq f 452 then d452 N κ args S else d) else (bif Nat.blt f 470 then (bif Nat.beq f 453 then d453 N κ args S else d) else (bif Nat.beq f 470 then d470 N κ args S else d))))))))))
theorem dispC_eq (N : Nat) (κ : Oracles) (f : FuncId) (args : List AV) (S : St) : dispC N κ f args S = runF (Cs N) κ false f args S := by
  unfold dispC
  simp only
  refine treeC _ _ _ _ (fun _ => ?_) (fun _ => ?_)
  · refine treeC _ _ _ _ (fun _ => ?_) (fun _ => ?_)
    · refine treeC _ _ _ _ (fun _ => ?_) (fun _ => ?_)
      · refine treeC _ _ _ _ (fun _ => ?_) (fun _ => ?_)
        · refine treeC _ _ _ _ (fun _ => ?_) (fun _ => ?_)
          · refine treeC _ _ _ _ (fun _ => ?_) (fun _ => ?_)
            · refine treeC _ _ _ _ (fun _ => ?_) (fun _ => ?_)
              · refine treeC _ _ _ _ (fun _ => ?_) (fun _ => ?_)
                · exact leafC _ _ _ fun h => by subst h; exact q6 N κ args S
                · exact leafC _ _ _ fun h => by subst h; exact q7 N κ args S
              · refine treeC _ _ _ _ (fun _ => ?_) (fun _ => ?_)
                · exact leafC _ _ _ fun h => by subst h; exact q8 N κ args S
                · exact leafC _ _ _ fun h => by subst h; exact q9 N κ args S
            · refine treeC _ _ _ _ (fun _ => ?_) (fun _ => ?_)
              · refine treeC _ _ _ _ (fun _ => ?_) (fun _ => ?_)
                · exact leafC _ _ _ fun h => by subst h; exact q10 N κ args S
                · exact leafC _ _ _ fun h => by subst h; exact q12 N κ args S
              · refine treeC _ _ _ _ (fun _ => ?_) (fun _ => ?_)
                · exact leafC _ _ _ fun h => by subst h; exact q13 N κ args S
                · exact leafC _ _ _ fun h => by subst h; exact q14 N κ args S
          · refine treeC _ _ _ _ (fun _ => ?_) (fun _ => ?_)
            · refine treeC _ _ _ _ (fun _ => ?_) (fun _ => ?_)
              · refine treeC _ _ _ _ (fun _ => ?_) (fun _ => ?_)
                · exact leafC _ _ _ fun h => by subst h; exact q15 N κ args S
                · exact leafC _ _ _ fun h => by subst h; exact q30 N κ args S
              · refine treeC _ _ _ _ (fun _ => ?_) (fun _ => ?_)
                · exact leafC _ _ _ fun h => by subst h; exact q31 N κ args S
                · exact leafC _ _ _ fun h => by subst h; exact q32 N κ args S
            · refine treeC _ _ _ _ (fun _ => ?_) (fun _ => ?_)
              · refine treeC _ _ _ _ (fun _ => ?_) (fun _ => ?_)
                · exact leafC _ _ _ fun h => by subst h; exact q33 N κ args S
                · exact leafC _ _ _ fun h => by subst h; exact q34 N κ args S
              · refine treeC _ _ _ _ (fun _ => ?_) (fun _ => ?_)
                · exact leafC _ _ _ fun h => by subst h; exact q35 N κ args S
                · refine treeC _ _ _ _ (fun _ => ?_) (fun _ => ?_)
                  · exact leafC _ _ _ fun h => by subst h; exact q36 N κ args S
                  · exact leafC _ _ _ fun h => by subst h; exact q37 N κ args S
        · refine treeC _ _ _ _ (fun _ => ?_) (fun _ => ?_)
          · refine treeC _ _ _ _ (fun _ => ?_) (fun _ => ?_)
            · refine treeC _ _ _ _ (fun _ => ?_) (fun _ => ?_)
              · refine treeC _ _ _ _ (fun _ => ?_) (fun _ => ?_)
                · exact leafC _ _ _ fun h => by subst h; exact q38 N κ args S
                · exact leafC _ _ _ fun h => by subst h; exact q40 N κ args S
              · refine treeC _ _ _ _ (fun _ => ?_) (fun _ => ?_)
                · exact leafC _ _ _ fun h => by subst h; exact q44 N κ args S
                · exact leafC _ _ _ fun h => by subst h; exact q45 N κ args S
            · refine treeC _ _ _ _ (fun _ => ?_) (fun _ => ?_)
              · refine treeC _ _ _ _ (fun _ => ?_) (fun _ => ?_)
                · exact leafC _ _ _ fun h => by subst h; exact q46 N κ args S
                · exact leafC _ _ _ fun h => by subst h; exact q47 N κ args S
              · refine treeC _ _ _ _ (fun _ => ?_) (fun _ => ?_)
                · exact leafC _ _ _ fun h => by subst h; exact q48 N κ args S
                · exact leafC _ _ _ fun h => by subst h; exact q49 N κ args S
          · refine treeC _ _ _ _ (fun _ => ?_) (fun _ => ?_)
            · refine treeC _ _ _ _ (fun _ => ?_) (fun _ => ?_)
              · refine treeC _ _ _ _ (fun _ => ?_) (fun _ => ?_)
                · exact leafC _ _ _ fun h => by subst h; exact q50 N κ args S
                · exact leafC _ _ _ fun h => by subst h; exact q51 N κ args S
              · refine treeC _ _ _ _ (fun _ => ?_) (fun _ => ?_)
                · exact leafC _ _ _ fun h => by subst h; exact q52 N κ args S
                · exact leafC _ _ _ fun h => by subst h; exact q53 N κ args S
            · refine treeC _ _ _ _ (fun _ => ?_) (fun _ => ?_)
              · refine treeC _ _ _ _ (fun _ => ?_) (fun _ => ?_)
                · exact leafC _ _ _ fun h => by subst h; exact q54 N κ args S
                · exact leafC _ _ _ fun h => by subst h; exact q55 N κ args S
              · refine treeC _ _ _ _ (fun _ => ?_) (fun _ => ?_)
                · exact leafC _ _ _ fun h => by subst h; exact q56 N κ args S
                · refine treeC _ _ _ _ (fun _ => ?_) (fun _ => ?_)
                  · exact leafC _ _ _ fun h => by subst h; exact q69 N κ args S
                  · exact leafC _ _ _ fun h => by subst h; exact q75 N κ args S
      · refine treeC _ _ _ _ (fun _ => ?_) (fun _ => ?_)
        · refine treeC _ _ _ _ (fun _ => ?_) (fun _ => ?_)
          · refine treeC _ _ _ _ (fun _ => ?_) (fun _ => ?_)
            · refine treeC _ _ _ _ (fun _ => ?_) (fun _ => ?_)
              · refine treeC _ _ _ _ (fun _ => ?_) (fun _ => ?_)
                · exact leafC _ _ _ fun h => by subst h; exact q76 N κ args S
                · exact leafC _ _ _ fun h => by subst h; exact q77 N κ args S
              · refine treeC _ _ _ _ (fun _ => ?_) (fun _ => ?_)
                · exact leafC _ _ _ fun h => by subst h; exact q78 N κ args S
                · exact leafC _ _ _ fun h => by subst h; exact q79 N κ args S
            · refine treeC _ _ _ _ (fun _ => ?_) (fun _ => ?_)
              · refine treeC _ _ _ _ (fun _ => ?_) (fun _ => ?_)
                · exact leafC _ _ _ fun h => by subst h; exact q80 N κ args S
                · exact leafC _ _ _ fun h => by subst h; exact q81 N κ args S
              · refine treeC _ _ _ _ (fun _ => ?_) (fun _ => ?_)
                · exact leafC _ _ _ fun h => by subst h; exact q82 N κ args S
                · exact leafC _ _ _ fun h => by subst h; exact q83 N κ args S
          · refine treeC _ _ _ _ (fun _ => ?_) (fun _ => ?_)
            · refine treeC _ _ _ _ (fun _ => ?_) (fun _ => ?_)
              · refine treeC _ _ _ _ (fun _ => ?_) (fun _ => ?_)
                · exact leafC _ _ _ fun h => by subst h; exact q84 N κ args S
                · exact leafC _ _ _ fun h => by subst h; exact q85 N κ args S
              · refine treeC _ _ _ _ (fun _ => ?_) (fun _ => ?_)
                · exact leafC _ _ _ fun h => by subst h; exact q86 N κ args S
                · exact leafC _ _ _ fun h => by subst h; exact q87 N κ args S
            · refine treeC _ _ _ _ (fun _ => ?_) (fun _ => ?_)
              · refine treeC _ _ _ _ (fun _ => ?_) (fun _ => ?_)
                · exact leafC _ _ _ fun h => by subst h; exact q88 N κ args S
                · exact leafC _ _ _ fun h => by subst h; exact q89 N κ args S
              · refine treeC _ _ _ _ (fun _ => ?_) (fun _ => ?_)
                · exact leafC _ _ _ fun h => by subst h; exact q90 N κ args S
                · refine treeC _ _ _ _ (fun _ => ?_) (fun _ => ?_)
                  · exact leafC _ _ _ fun h => by subst h; exact q91 N κ args S
                  · exact leafC _ _ _ fun h => by subst h; exact q92 N κ args S
        · refine treeC _ _ _ _ (fun _ => ?_) (fun _ => ?_)
          · refine treeC _ _ _ _ (fun _ => ?_) (fun _ => ?_)
            · refine treeC _ _ _ _ (fun _ => ?_) (fun _ => ?_)
              · refine treeC _ _ _ _ (fun _ => ?_) (fun _ => ?_)
                · exact leafC _ _ _ fun h => by subst h; exact q93 N κ args S
                · exact leafC _ _ _ fun h => by subst h; exact q94 N κ args S
              · refine treeC _ _ _ _ (fun _ => ?_) (fun _ => ?_)
                · exact leafC _ _ _ fun h => by subst h; exact q95 N κ args S
                · exact leafC _ _ _ fun h => by subst h; exact q96 N κ args S
            · refine treeC _ _ _ _ (fun _ => ?_) (fun _ => ?_)
              · refine treeC _ _ _ _ (fun _ => ?_) (fun _ => ?_)
                · exact leafC _ _ _ fun h => by subst h; exact q97 N κ args S
                · exact leafC _ _ _ fun h => by subst h; exact q99 N κ args S
              · refine treeC _ _ _ _ (fun _ => ?_) (fun _ => ?_)
                · exact leafC _ _ _ fun h => by subst h; exact q101 N κ args S
                · exact leafC _ _ _ fun h => by subst h; exact q102 N κ args S
          · refine treeC _ _ _ _ (fun _ => ?_) (fun _ => ?_)
            · refine treeC _ _ _ _ (fun _ => ?_) (fun _ => ?_)
              · refine treeC _ _ _ _ (fun _ => ?_) (fun _ => ?_)
                · exact leafC _ _ _ fun h => by subst h; exact q103 N κ args S
                · exact leafC _ _ _ fun h => by subst h; exact q104 N κ args S
              · refine treeC _ _ _ _ (fun _ => ?_) (fun _ => ?_)
                · exact leafC _ _ _ fun h => by subst h; exact q105 N κ args S
                · exact leafC _ _ _ fun h => by subst h; exact q106 N κ args S
            · refine treeC _ _ _ _ (fun _ => ?_) (fun _ => ?_)
              · refine treeC _ _ _ _ (fun _ => ?_) (fun _ => ?_)
                · exact leafC _ _ _ fun h => by subst h; exact q107 N κ args S
                · exact leafC _ _ _ fun h => by subst h; exact q108 N κ args S
              · refine treeC _ _ _ _ (fun _ => ?_) (fun _ => ?_)
                · exact leafC _ _ _ fun h => by subst h; exact q110 N κ args S
                · refine treeC _ _ _ _ (fun _ => ?_) (fun _ => ?_)
                  · exact leafC _ _ _ fun h => by subst h; exact q111 N κ args S
                  · exact leafC _ _ _ fun h => by subst h; exact q112 N κ args S
    · refine treeC _ _ _ _ (fun _ => ?_) (fun _ => ?_)
      · refine treeC _ _ _ _ (fun _ => ?_) (fun _ => ?_)
        · refine treeC _ _ _ _ (fun _ => ?_) (fun _ => ?_)
          · refine treeC _ _ _ _ (fun _ => ?_) (fun _ => ?_)
            · refine treeC _ _ _ _ (fun _ => ?_) (fun _ => ?_)
              · refine treeC _ _ _ _ (fun _ => ?_) (fun _ => ?_)
                · exact leafC _ _ _ fun h => by subst h; exact q113 N κ args S
                · exact leafC _ _ _ fun h => by subst h; exact q119 N κ args S
              · refine treeC _ _ _ _ (fun _ => ?_) (fun _ => ?_)
                · exact leafC _ _ _ fun h => by subst h; exact q120 N κ args S
                · exact leafC _ _ _ fun h => by subst h; exact q121 N κ args S
            · refine treeC _ _ _ _ (fun _ => ?_) (fun _ => ?_)
              · refine treeC _ _ _ _ (fun _ => ?_) (fun _ => ?_)
                · exact leafC _ _ _ fun h => by subst h; exact q122 N κ args S
                · exact leafC _ _ _ fun h => by subst h; exact q123 N κ args S
              · refine treeC _ _ _ _ (fun _ => ?_) (fun _ => ?_)
                · exact leafC _ _ _ fun h => by subst h; exact q124 N κ args S
                · exact leafC _ _ _ fun h => by subst h; exact q126 N κ args S
          · refine treeC _ _ _ _ (fun _ => ?_) (fun _ => ?_)
            · refine treeC _ _ _ _ (fun _ => ?_) (fun _ => ?_)
              · refine treeC _ _ _ _ (fun _ => ?_) (fun _ => ?_)
                · exact leafC _ _ _ fun h => by subst h; exact q127 N κ args S
                · exact leafC _ _ _ fun h => by subst h; exact q128 N κ args S
              · refine treeC _ _ _ _ (fun _ => ?_) (fun _ => ?_)
                · exact leafC _ _ _ fun h => by subst h; exact q129 N κ args S
                · exact leafC _ _ _ fun h => by subst h; exact q132 N κ args S
            · refine treeC _ _ _ _ (fun _ => ?_) (fun _ => ?_)
              · refine treeC _ _ _ _ (fun _ => ?_) (fun _ => ?_)
                · exact leafC _ _ _ fun h => by subst h; exact q134 N κ args S
                · exact leafC _ _ _ fun h => by subst h; exact q135 N κ args S
              · refine treeC _ _ _ _ (fun _ => ?_) (fun _ => ?_)
                · exact leafC _ _ _ fun h => by subst h; exact q136 N κ args S
                · refine treeC _ _ _ _ (fun _ => ?_) (fun _ => ?_)
                  · exact leafC _ _ _ fun h => by subst h; exact q137 N κ args S
                  · exact leafC _ _ _ fun h => by subst h; exact q138 N κ args S
        · refine treeC _ _ _ _ (fun _ => ?_) (fun _ => ?_)
          · refine treeC _ _ _ _ (fun _ => ?_) (fun _ => ?_)
            · refine treeC _ _ _ _ (fun _ => ?_) (fun _ => ?_)
              · refine treeC _ _ _ _ (fun _ => ?_) (fun _ => ?_)
                · exact leafC _ _ _ fun h => by subst h; exact q139 N κ args S
                · exact leafC _ _ _ fun h => by subst h; exact q144 N κ args S
              · refine treeC _ _ _ _ (fun _ => ?_) (fun _ => ?_)
                · exact leafC _ _ _ fun h => by subst h; exact q158 N κ args S
                · exact leafC _ _ _ fun h => by subst h; exact q159 N κ args S
            · refine treeC _ _ _ _ (fun _ => ?_) (fun _ => ?_)
              · refine treeC _ _ _ _ (fun _ => ?_) (fun _ => ?_)
                · exact leafC _ _ _ fun h => by subst h; exact q160 N κ args S
                · exact leafC _ _ _ fun h => by subst h; exact q161 N κ args S
              · refine treeC _ _ _ _ (fun _ => ?_) (fun _ => ?_)
                · exact leafC _ _ _ fun h => by subst h; exact q162 N κ args S
                · exact leafC _ _ _ fun h => by subst h; exact q163 N κ args S
          · refine treeC _ _ _ _ (fun _ => ?_) (fun _ => ?_)
            · refine treeC _ _ _ _ (fun _ => ?_) (fun _ => ?_)
              · refine treeC _ _ _ _ (fun _ => ?_) (fun _ => ?_)
                · exact leafC _ _ _ fun h => by subst h; exact q164 N κ args S
                · exact leafC _ _ _ fun h => by subst h; exact q165 N κ args S
              · refine treeC _ _ _ _ (fun _ => ?_) (fun _ => ?_)
                · exact leafC _ _ _ fun h => by subst h; exact q167 N κ args S
                · exact leafC _ _ _ fun h => by subst h; exact q168 N κ args S
            · refine treeC _ _ _ _ (fun _ => ?_) (fun _ => ?_)
              · refine treeC _ _ _ _ (fun _ => ?_) (fun _ => ?_)
                · exact leafC _ _ _ fun h => by subst h; exact q169 N κ args S
                · exact leafC _ _ _ fun h => by subst h; exact q171 N κ args S
              · refine treeC _ _ _ _ (fun _ => ?_) (fun _ => ?_)
                · exact leafC _ _ _ fun h => by subst h; exact q172 N κ args S
                · refine treeC _ _ _ _ (fun _ => ?_) (fun _ => ?_)
                  · exact leafC _ _ _ fun h => by subst h; exact q173 N κ args S
                  · exact leafC _ _ _ fun h => by subst h; exact q174 N κ args S
      · refine treeC _ _ _ _ (fun _ => ?_) (fun _ => ?_)
        · refine treeC _ _ _ _ (fun _ => ?_) (fun _ => ?_)
          · refine treeC _ _ _ _ (fun _ => ?_) (fun _ => ?_)
            · refine treeC _ _ _ _ (fun _ => ?_) (fun _ => ?_)
              · refine treeC _ _ _ _ (fun _ => ?_) (fun _ => ?_)
                · exact leafC _ _ _ fun h => by subst h; exact q176 N κ args S
                · exact leafC _ _ _ fun h => by subst h; exact q177 N κ args S
              · refine treeC _ _ _ _ (fun _ => ?_) (fun _ => ?_)
                · exact leafC _ _ _ fun h => by subst h; exact q178 N κ args S
                · exact leafC _ _ _ fun h => by subst h; exact q179 N κ args S
            · refine treeC _ _ _ _ (fun _ => ?_) (fun _ => ?_)
              · refine treeC _ _ _ _ (fun _ => ?_) (fun _ => ?_)
                · exact leafC _ _ _ fun h => by subst h; exact q180 N κ args S
                · exact leafC _ _ _ fun h => by subst h; exact q181 N κ args S
              · refine treeC _ _ _ _ (fun _ => ?_) (fun _ => ?_)
                · exact leafC _ _ _ fun h => by subst h; exact q182 N κ args S
                · exact leafC _ _ _ fun h => by subst h; exact q183 N κ args S
          · refine treeC _ _ _ _ (fun _ => ?_) (fun _ => ?_)
            · refine treeC _ _ _ _ (fun _ => ?_) (fun _ => ?_)
              · refine treeC _ _ _ _ (fun _ => ?_) (fun _ => ?_)
                · exact leafC _ _ _ fun h => by subst h; exact q186 N κ args S
                · exact leafC _ _ _ fun h => by subst h; exact q187 N κ args S
              · refine treeC _ _ _ _ (fun _ => ?_) (fun _ => ?_)
                · exact leafC _ _ _ fun h => by subst h; exact q192 N κ args S
                · exact leafC _ _ _ fun h => by subst h; exact q193 N κ args S
            · refine treeC _ _ _ _ (fun _ => ?_) (fun _ => ?_)
              · refine treeC _ _ _ _ (fun _ => ?_) (fun _ => ?_)
                · exact leafC _ _ _ fun h => by subst h; exact q194 N κ args S
                · exact leafC _ _ _ fun h => by subst h; exact q196 N κ args S
              · refine treeC _ _ _ _ (fun _ => ?_) (fun _ => ?_)
                · exact leafC _ _ _ fun h => by subst h; exact q197 N κ args S
                · refine treeC _ _ _ _ (fun _ => ?_) (fun _ => ?_)
                  · exact leafC _ _ _ fun h => by subst h; exact q198 N κ args S
                  · exact leafC _ _ _ fun h => by subst h; exact q199 N κ args S
        · refine treeC _ _ _ _ (fun _ => ?_) (fun _ => ?_)
          · refine treeC _ _ _ _ (fun _ => ?_) (fun _ => ?_)
            · refine treeC _ _ _ _ (fun _ => ?_) (fun _ => ?_)
              · refine treeC _ _ _ _ (fun _ => ?_) (fun _ => ?_)
                · exact leafC _ _ _ fun h => by subst h; exact q200 N κ args S
                · exact leafC _ _ _ fun h => by subst h; exact q202 N κ args S
              · refine treeC _ _ _ _ (fun _ => ?_) (fun _ => ?_)
                · exact leafC _ _ _ fun h => by subst h; exact q203 N κ args S
                · exact leafC _ _ _ fun h => by subst h; exact q204 N κ args S
            · refine treeC _ _ _ _ (fun _ => ?_) (fun _ => ?_)
              · refine treeC _ _ _ _ (fun _ => ?_) (fun _ => ?_)
                · exact leafC _ _ _ fun h => by subst h; exact q207 N κ args S
                · exact leafC _ _ _ fun h => by subst h; exact q208 N κ args S
              · refine treeC _ _ _ _ (fun _ => ?_) (fun _ => ?_)
                · exact leafC _ _ _ fun h => by subst h; exact q209 N κ args S
                · exact leafC _ _ _ fun h => by subst h; exact q210 N κ args S
          · refine treeC _ _ _ _ (fun _ => ?_) (fun _ => ?_)
            · refine treeC _ _ _ _ (fun _ => ?_) (fun _ => ?_)
              · refine treeC _ _ _ _ (fun _ => ?_) (fun _ => ?_)
                · exact leafC _ _ _ fun h => by subst h; exact q211 N κ args S
                · exact leafC _ _ _ fun h => by subst h; exact q212 N κ args S
              · refine treeC _ _ _ _ (fun _ => ?_) (fun _ => ?_)
                · exact leafC _ _ _ fun h => by subst h; exact q213 N κ args S
                · exact leafC _ _ _ fun h => by subst h; exact q214 N κ args S
            · refine treeC _ _ _ _ (fun _ => ?_) (fun _ => ?_)
              · refine treeC _ _ _ _ (fun _ => ?_) (fun _ => ?_)
                · exact leafC _ _ _ fun h => by subst h; exact q215 N κ args S
                · exact leafC _ _ _ fun h => by subst h; exact q216 N κ args S
              · refine treeC _ _ _ _ (fun _ => ?_) (fun _ => ?_)
                · exact leafC _ _ _ fun h => by subst h; exact q217 N κ args S
                · refine treeC _ _ _ _ (fun _ => ?_) (fun _ => ?_)
                  · exact leafC _ _ _ fun h => by subst h; exact q219 N κ args S
                  · exact leafC _ _ _ fun h => by subst h; exact q220 N κ args S
  · refine treeC _ _ _ _ (fun _ => ?_) (fun _ => ?_)
    · refine treeC _ _ _ _ (fun _ => ?_) (fun _ => ?_)
      · refine treeC _ _ _ _ (fun _ => ?_) (fun _ => ?_)
        · refine treeC _ _ _ _ (fun _ => ?_) (fun _ => ?_)
          · refine treeC _ _ _ _ (fun _ => ?_) (fun _ => ?_)
            · refine treeC _ _ _ _ (fun _ => ?_) (fun _ => ?_)
              · refine treeC _ _ _ _ (fun _ => ?_) (fun _ => ?_)
                · exact leafC _ _ _ fun h => by subst h; exact q221 N κ args S
                · exact leafC _ _ _ fun h => by subst h; exact q223 N κ args S
              · refine treeC _ _ _ _ (fun _ => ?_) (fun _ => ?_)
                · exact leafC _ _ _ fun h => by subst h; exact q224 N κ args S
                · exact leafC _ _ _ fun h => by subst h; exact q225 N κ args S
            · refine treeC _ _ _ _ (fun _ => ?_) (fun _ => ?_)
              · refine treeC _ _ _ _ (fun _ => ?_) (fun _ => ?_)
                · exact leafC _ _ _ fun h => by subst h; exact q226 N κ args S
                · exact leafC _ _ _ fun h => by subst h; exact q227 N κ args S
              · refine treeC _ _ _ _ (fun _ => ?_) (fun _ => ?_)
                · exact leafC _ _ _ fun h => by subst h; exact q228 N κ args S
                · exact leafC _ _ _ fun h => by subst h; exact q229 N κ args S
          · refine treeC _ _ _ _ (fun _ => ?_) (fun _ => ?_)
            · refine treeC _ _ _ _ (fun _ => ?_) (fun _ => ?_)
              · refine treeC _ _ _ _ (fun _ => ?_) (fun _ => ?_)
                · exact leafC _ _ _ fun h => by subst h; exact q230 N κ args S
                · exact leafC _ _ _ fun h => by subst h; exact q231 N κ args S
              · refine treeC _ _ _ _ (fun _ => ?_) (fun _ => ?_)
                · exact leafC _ _ _ fun h => by subst h; exact q232 N κ args S
                · exact leafC _ _ _ fun h => by subst h; exact q233 N κ args S
            · refine treeC _ _ _ _ (fun _ => ?_) (fun _ => ?_)
              · refine treeC _ _ _ _ (fun _ => ?_) (fun _ => ?_)
                · exact leafC _ _ _ fun h => by subst h; exact q234 N κ args S
                · exact leafC _ _ _ fun h => by subst h; exact q235 N κ args S
              · refine treeC _ _ _ _ (fun _ => ?_) (fun _ => ?_)
                · exact leafC _ _ _ fun h => by subst h; exact q236 N κ args S
                · refine treeC _ _ _ _ (fun _ => ?_) (fun _ => ?_)
                  · exact leafC _ _ _ fun h => by subst h; exact q237 N κ args S
                  · exact leafC _ _ _ fun h => by subst h; exact q238 N κ args S
        · refine treeC _ _ _ _ (fun _ => ?_) (fun _ => ?_)
          · refine treeC _ _ _ _ (fun _ => ?_) (fun _ => ?_)
            · refine treeC _ _ _ _ (fun _ => ?_) (fun _ => ?_)
              · refine treeC _ _ _ _ (fun _ => ?_) (fun _ => ?_)
                · exact leafC _ _ _ fun h => by subst h; exact q239 N κ args S
                · exact leafC _ _ _ fun h => by subst h; exact q240 N κ args S
              · refine treeC _ _ _ _ (fun _ => ?_) (fun _ => ?_)
                · exact leafC _ _ _ fun h => by subst h; exact q241 N κ args S
                · exact leafC _ _ _ fun h => by subst h; exact q244 N κ args S
            · refine treeC _ _ _ _ (fun _ => ?_) (fun _ => ?_)
              · refine treeC _ _ _ _ (fun _ => ?_) (fun _ => ?_)
                · exact leafC _ _ _ fun h => by subst h; exact q245 N κ args S
                · exact leafC _ _ _ fun h => by subst h; exact q246 N κ args S
              · refine treeC _ _ _ _ (fun _ => ?_) (fun _ => ?_)
                · exact leafC _ _ _ fun h => by subst h; exact q251 N κ args S
                · exact leafC _ _ _ fun h => by subst h; exact q254 N κ args S
          · refine treeC _ _ _ _ (fun _ => ?_) (fun _ => ?_)
            · refine treeC _ _ _ _ (fun _ => ?_) (fun _ => ?_)
              · refine treeC _ _ _ _ (fun _ => ?_) (fun _ => ?_)
                · exact leafC _ _ _ fun h => by subst h; exact q258 N κ args S
                · exact leafC _ _ _ fun h => by subst h; exact q259 N κ args S
              · refine treeC _ _ _ _ (fun _ => ?_) (fun _ => ?_)
                · exact leafC _ _ _ fun h => by subst h; exact q260 N κ args S
                · exact leafC _ _ _ fun h => by subst h; exact q270 N κ args S
            · refine treeC _ _ _ _ (fun _ => ?_) (fun _ => ?_)
              · refine treeC _ _ _ _ (fun _ => ?_) (fun _ => ?_)
                · exact leafC _ _ _ fun h => by subst h; exact q271 N κ args S
                · exact leafC _ _ _ fun h => by subst h; exact q273 N κ args S
              · refine treeC _ _ _ _ (fun _ => ?_) (fun _ => ?_)
                · exact leafC _ _ _ fun h => by subst h; exact q274 N κ args S
                · refine treeC _ _ _ _ (fun _ => ?_) (fun _ => ?_)
                  · exact leafC _ _ _ fun h => by subst h; exact q275 N κ args S
                  · exact leafC _ _ _ fun h => by subst h; exact q277 N κ args S
      · refine treeC _ _ _ _ (fun _ => ?_) (fun _ => ?_)
        · refine treeC _ _ _ _ (fun _ => ?_) (fun _ => ?_)
          · refine treeC _ _ _ _ (fun _ => ?_) (fun _ => ?_)
            · refine treeC _ _ _ _ (fun _ => ?_) (fun _ => ?_)
              · refine treeC _ _ _ _ (fun _ => ?_) (fun _ => ?_)
                · exact leafC _ _ _ fun h => by subst h; exact q278 N κ args S
                · exact leafC _ _ _ fun h => by subst h; exact q279 N κ args S
              · refine treeC _ _ _ _ (fun _ => ?_) (fun _ => ?_)
                · exact leafC _ _ _ fun h => by subst h; exact q280 N κ args S
                · exact leafC _ _ _ fun h => by subst h; exact q281 N κ args S
            · refine treeC _ _ _ _ (fun _ => ?_) (fun _ => ?_)
              · refine treeC _ _ _ _ (fun _ => ?_) (fun _ => ?_)
                · exact leafC _ _ _ fun h => by subst h; exact q282 N κ args S
                · exact leafC _ _ _ fun h => by subst h; exact q288 N κ args S
              · refine treeC _ _ _ _ (fun _ => ?_) (fun _ => ?_)
                · exact leafC _ _ _ fun h => by subst h; exact q289 N κ args S
                · exact leafC _ _ _ fun h => by subst h; exact q290 N κ args S
          · refine treeC _ _ _ _ (fun _ => ?_) (fun _ => ?_)
            · refine treeC _ _ _ _ (fun _ => ?_) (fun _ => ?_)
              · refine treeC _ _ _ _ (fun _ => ?_) (fun _ => ?_)
                · exact leafC _ _ _ fun h => by subst h; exact q291 N κ args S
                · exact leafC _ _ _ fun h => by subst h; exact q292 N κ args S
              · refine treeC _ _ _ _ (fun _ => ?_) (fun _ => ?_)
                · exact leafC _ _ _ fun h => by subst h; exact q294 N κ args S
                · exact leafC _ _ _ fun h => by subst h; exact q295 N κ args S
            · refine treeC _ _ _ _ (fun _ => ?_) (fun _ => ?_)
              · refine treeC _ _ _ _ (fun _ => ?_) (fun _ => ?_)
                · exact leafC _ _ _ fun h => by subst h; exact q296 N κ args S
                · exact leafC _ _ _ fun h => by subst h; exact q297 N κ args S
              · refine treeC _ _ _ _ (fun _ => ?_) (fun _ => ?_)
                · exact leafC _ _ _ fun h => by subst h; exact q300 N κ args S
                · refine treeC _ _ _ _ (fun _ => ?_) (fun _ => ?_)
                  · exact leafC _ _ _ fun h => by subst h; exact q301 N κ args S
                  · exact leafC _ _ _ fun h => by subst h; exact q302 N κ args S
        · refine treeC _ _ _ _ (fun _ => ?_) (fun _ => ?_)
          · refine treeC _ _ _ _ (fun _ => ?_) (fun _ => ?_)
            · refine treeC _ _ _ _ (fun _ => ?_) (fun _ => ?_)
              · refine treeC _ _ _ _ (fun _ => ?_) (fun _ => ?_)
                · exact leafC _ _ _ fun h => by subst h; exact q303 N κ args S
                · exact leafC _ _ _ fun h => by subst h; exact q304 N κ args S
              · refine treeC _ _ _ _ (fun _ => ?_) (fun _ => ?_)
                · exact leafC _ _ _ fun h => by subst h; exact q305 N κ args S
                · exact leafC _ _ _ fun h => by subst h; exact q306 N κ args S
            · refine treeC _ _ _ _ (fun _ => ?_) (fun _ => ?_)
              · refine treeC _ _ _ _ (fun _ => ?_) (fun _ => ?_)
                · exact leafC _ _ _ fun h => by subst h; exact q307 N κ args S
                · exact leafC _ _ _ fun h => by subst h; exact q308 N κ args S
              · refine treeC _ _ _ _ (fun _ => ?_) (fun _ => ?_)
                · exact leafC _ _ _ fun h => by subst h; exact q309 N κ args S
                · exact leafC _ _ _ fun h => by subst h; exact q310 N κ args S
          · refine treeC _ _ _ _ (fun _ => ?_) (fun _ => ?_)
            · refine treeC _ _ _ _ (fun _ => ?_) (fun _ => ?_)
              · refine treeC _ _ _ _ (fun _ => ?_) (fun _ => ?_)
                · exact leafC _ _ _ fun h => by subst h; exact q313 N κ args S
                · exact leafC _ _ _ fun h => by subst h; exact q314 N κ args S
              · refine treeC _ _ _ _ (fun _ => ?_) (fun _ => ?_)
                · exact leafC _ _ _ fun h => by subst h; exact q315 N κ args S
                · exact leafC _ _ _ fun h => by subst h; exact q316 N κ args S
            · refine treeC _ _ _ _ (fun _ => ?_) (fun _ => ?_)
              · refine treeC _ _ _ _ (fun _ => ?_) (fun _ => ?_)
                · exact leafC _ _ _ fun h => by subst h; exact q317 N κ args S
                · exact leafC _ _ _ fun h => by subst h; exact q319 N κ args S
              · refine treeC _ _ _ _ (fun _ => ?_) (fun _ => ?_)
                · exact leafC _ _ _ fun h => by subst h; exact q320 N κ args S
                · refine treeC _ _ _ _ (fun _ => ?_) (fun _ => ?_)
                  · exact leafC _ _ _ fun h => by subst h; exact q321 N κ args S
                  · exact leafC _ _ _ fun h => by subst h; exact q322 N κ args S
    · refine treeC _ _ _ _ (fun _ => ?_) (fun _ => ?_)
      · refine treeC _ _ _ _ (fun _ => ?_) (fun _ => ?_)
        · refine treeC _ _ _ _ (fun _ => ?_) (fun _ => ?_)
          · refine treeC _ _ _ _ (fun _ => ?_) (fun _ => ?_)
            · refine treeC _ _ _ _ (fun _ => ?_) (fun _ => ?_)
              · refine treeC _ _ _ _ (fun _ => ?_) (fun _ => ?_)
                · exact leafC _ _ _ fun h => by subst h; exact q331 N κ args S
                · exact leafC _ _ _ fun h => by subst h; exact q341 N κ args S
              · refine treeC _ _ _ _ (fun _ => ?_) (fun _ => ?_)
                · exact leafC _ _ _ fun h => by subst h; exact q348 N κ args S
                · exact leafC _ _ _ fun h => by subst h; exact q349 N κ args S
            · refine treeC _ _ _ _ (fun _ => ?_) (fun _ => ?_)
              · refine treeC _ _ _ _ (fun _ => ?_) (fun _ => ?_)
                · exact leafC _ _ _ fun h => by subst h; exact q351 N κ args S
                · exact leafC _ _ _ fun h => by subst h; exact q352 N κ args S
              · refine treeC _ _ _ _ (fun _ => ?_) (fun _ => ?_)
                · exact leafC _ _ _ fun h => by subst h; exact q353 N κ args S
                · exact leafC _ _ _ fun h => by subst h; exact q355 N κ args S
          · refine treeC _ _ _ _ (fun _ => ?_) (fun _ => ?_)
            · refine treeC _ _ _ _ (fun _ => ?_) (fun _ => ?_)
              · refine treeC _ _ _ _ (fun _ => ?_) (fun _ => ?_)
                · exact leafC _ _ _ fun h => by subst h; exact q356 N κ args S
                · exact leafC _ _ _ fun h => by subst h; exact q357 N κ args S
              · refine treeC _ _ _ _ (fun _ => ?_) (fun _ => ?_)
                · exact leafC _ _ _ fun h => by subst h; exact q358 N κ args S
                · exact leafC _ _ _ fun h => by subst h; exact q359 N κ args S
            · refine treeC _ _ _ _ (fun _ => ?_) (fun _ => ?_)
              · refine treeC _ _ _ _ (fun _ => ?_) (fun _ => ?_)
                · exact leafC _ _ _ fun h => by subst h; exact q360 N κ args S
                · exact leafC _ _ _ fun h => by subst h; exact q361 N κ args S
              · refine treeC _ _ _ _ (fun _ => ?_) (fun _ => ?_)
                · exact leafC _ _ _ fun h => by subst h; exact q362 N κ args S
                · refine treeC _ _ _ _ (fun _ => ?_) (fun _ => ?_)
                  · exact leafC _ _ _ fun h => by subst h; exact q363 N κ args S
                  · exact leafC _ _ _ fun h => by subst h; exact q364 N κ args S
        · refine treeC _ _ _ _ (fun _ => ?_) (fun _ => ?_)
          · refine treeC _ _ _ _ (fun _ => ?_) (fun _ => ?_)
            · refine treeC _ _ _ _ (fun _ => ?_) (fun _ => ?_)
              · refine treeC _ _ _ _ (fun _ => ?_) (fun _ => ?_)
                · exact leafC _ _ _ fun h => by subst h; exact q365 N κ args S
                · exact leafC _ _ _ fun h => by subst h; exact q366 N κ args S
              · refine treeC _ _ _ _ (fun _ => ?_) (fun _ => ?_)
                · exact leafC _ _ _ fun h => by subst h; exact q367 N κ args S
                · exact leafC _ _ _ fun h => by subst h; exact q371 N κ args S
            · refine treeC _ _ _ _ (fun _ => ?_) (fun _ => ?_)
              · refine treeC _ _ _ _ (fun _ => ?_) (fun _ => ?_)
                · exact leafC _ _ _ fun h => by subst h; exact q372 N κ args S
                · exact leafC _ _ _ fun h => by subst h; exact q373 N κ args S
              · refine treeC _ _ _ _ (fun _ => ?_) (fun _ => ?_)
                · exact leafC _ _ _ fun h => by subst h; exact q376 N κ args S
                · exact leafC _ _ _ fun h => by subst h; exact q377 N κ args S
          · refine treeC _ _ _ _ (fun _ => ?_) (fun _ => ?_)
            · refine treeC _ _ _ _ (fun _ => ?_) (fun _ => ?_)
              · refine treeC _ _ _ _ (fun _ => ?_) (fun _ => ?_)
                · exact leafC _ _ _ fun h => by subst h; exact q378 N κ args S
                · exact leafC _ _ _ fun h => by subst h; exact q379 N κ args S
              · refine treeC _ _ _ _ (fun _ => ?_) (fun _ => ?_)
                · exact leafC _ _ _ fun h => by subst h; exact q380 N κ args S
                · exact leafC _ _ _ fun h => by subst h; exact q381 N κ args S
            · refine treeC _ _ _ _ (fun _ => ?_) (fun _ => ?_)
              · refine treeC _ _ _ _ (fun _ => ?_) (fun _ => ?_)
                · exact leafC _ _ _ fun h => by subst h; exact q382 N κ args S
                · exact leafC _ _ _ fun h => by subst h; exact q387 N κ args S
              · refine treeC _ _ _ _ (fun _ => ?_) (fun _ => ?_)
                · exact leafC _ _ _ fun h => by subst h; exact q397 N κ args S
                · refine treeC _ _ _ _ (fun _ => ?_) (fun _ => ?_)
                  · exact leafC _ _ _ fun h => by subst h; exact q398 N κ args S
                  · exact leafC _ _ _ fun h => by subst h; exact q405 N κ args S
      · refine treeC _ _ _ _ (fun _ => ?_) (fun _ => ?_)
        · refine treeC _ _ _ _ (fun _ => ?_) (fun _ => ?_)
          · refine treeC _ _ _ _ (fun _ => ?_) (fun _ => ?_)
            · refine treeC _ _ _ _ (fun _ => ?_) (fun _ => ?_)
              · refine treeC _ _ _ _ (fun _ => ?_) (fun _ => ?_)
                · exact leafC _ _ _ fun h => by subst h; exact q406 N κ args S
                · exact leafC _ _ _ fun h => by subst h; exact q407 N κ args S
              · refine treeC _ _ _ _ (fun _ => ?_) (fun _ => ?_)
                · exact leafC _ _ _ fun h => by subst h; exact q408 N κ args S
                · exact leafC _ _ _ fun h => by subst h; exact q409 N κ args S
            · refine treeC _ _ _ _ (fun _ => ?_) (fun _ => ?_)
              · refine treeC _ _ _ _ (fun _ => ?_) (fun _ => ?_)
                · exact leafC _ _ _ fun h => by subst h; exact q410 N κ args S
                · exact leafC _ _ _ fun h => by subst h; exact q413 N κ args S
              · refine treeC _ _ _ _ (fun _ => ?_) (fun _ => ?_)
                · exact leafC _ _ _ fun h => by subst h; exact q415 N κ args S
                · exact leafC _ _ _ fun h => by subst h; exact q416 N κ args S
          · refine treeC _ _ _ _ (fun _ => ?_) (fun _ => ?_)
            · refine treeC _ _ _ _ (fun _ => ?_) (fun _ => ?_)
              · refine treeC _ _ _ _ (fun _ => ?_) (fun _ => ?_)
                · exact leafC _ _ _ fun h => by subst h; exact q417 N κ args S
                · exact leafC _ _ _ fun h => by subst h; exact q418 N κ args S
              · refine treeC _ _ _ _ (fun _ => ?_) (fun _ => ?_)
                · exact leafC _ _ _ fun h => by subst h; exact q419 N κ args S
                · exact leafC _ _ _ fun h => by subst h; exact q420 N κ args S
            · refine treeC _ _ _ _ (fun _ => ?_) (fun _ => ?_)
              · refine treeC _ _ _ _ (fun _ => ?_) (fun _ => ?_)
                · exact leafC _ _ _ fun h => by subst h; exact q421 N κ args S
                · exact leafC _ _ _ fun h => by subst h; exact q422 N κ args S
              · refine treeC _ _ _ _ (fun _ => ?_) (fun _ => ?_)
                · exact leafC _ _ _ fun h => by subst h; exact q426 N κ args S
                · refine treeC _ _ _ _ (fun _ => ?_) (fun _ => ?_)
                  · exact leafC _ _ _ fun h => by subst h; exact q427 N κ args S
                  · exact leafC _ _ _ fun h => by subst h; exact q428 N κ args S
        · refine treeC _ _ _ _ (fun _ => ?_) (fun _ => ?_)
          · refine treeC _ _ _ _ (fun _ => ?_) (fun _ => ?_)
            · refine treeC _ _ _ _ (fun _ => ?_) (fun _ => ?_)
              · refine treeC _ _ _ _ (fun _ => ?_) (fun _ => ?_)
                · exact leafC _ _ _ fun h => by subst h; exact q429 N κ args S
                · exact leafC _ _ _ fun h => by subst h; exact q430 N κ args S
              · refine treeC _ _ _ _ (fun _ => ?_) (fun _ => ?_)
                · exact leafC _ _ _ fun h => by subst h; exact q431 N κ args S
                · exact leafC _ _ _ fun h => by subst h; exact q432 N κ args S
            · refine treeC _ _ _ _ (fun _ => ?_) (fun _ => ?_)
              · refine treeC _ _ _ _ (fun _ => ?_) (fun _ => ?_)
                · exact leafC _ _ _ fun h => by subst h; exact q433 N κ args S
                · exact leafC _ _ _ fun h => by subst h; exact q435 N κ args S
              · refine treeC _ _ _ _ (fun _ => ?_) (fun _ => ?_)
                · exact leafC _ _ _ fun h => by subst h; exact q438 N κ args S
                · refine treeC _ _ _ _ (fun _ => ?_) (fun _ => ?_)
                  · exact leafC _ _ _ fun h => by subst h; exact q439 N κ args S
                  · exact leafC _ _ _ fun h => by subst h; exact q441 N κ args S
          · refine treeC _ _ _ _ (fun _ => ?_) (fun _ => ?_)
            · refine treeC _ _ _ _ (fun _ => ?_) (fun _ => ?_)
              · refine treeC _ _ _ _ (fun _ => ?_) (fun _ => ?_)
                · exact leafC _ _ _ fun h => by subst h; exact q444 N κ args S
                · exact leafC _ _ _ fun h => by subst h; exact q445 N κ args S
              · refine treeC _ _ _ _ (fun _ => ?_) (fun _ => ?_)
                · exact leafC _ _ _ fun h => by subst h; exact q446 N κ args S
                · exact leafC _ _ _ fun h => by subst h; exact q447 N κ args S
            · refine treeC _ _ _ _ (fun _ => ?_) (fun _ => ?_)
              · refine treeC _ _ _ _ (fun _ => ?_) (fun _ => ?_)
                · exact leafC _ _ _ fun h => by subst h; exact q448 N κ args S
                · exact leafC _ _ _ fun h => by subst h; exact q450 N κ args S
              · refine treeC _ _ _ _ (fun _ => ?_) (fun _ => ?_)
                · exact leafC _ _ _ fun h => by subst h; exact q452 N κ args S
                · refine treeC _ _ _ _ (fun _ => ?_) (fun _ => ?_)
                  · exact leafC _ _ _ fun h => by subst h; exact q453 N κ args S
                  · exact leafC _ _ _ fun h => by subst h; exact q470 N κ args S
noncomputable def shOr (N : Nat) : Nat → Oracles
  | 0 => { call := fun _ _ _ => none, yld := fun _ _ _ => none, dcall := fun _ _ _ => none }
  | n + 1 =>
    { call := fun f args S => dispC N (shOr N n) f args S
      yld := fun o args S => runY (Cs N) (shOr N n).toOracle o args S
      dcall := fun f args S => runF (Cs N) (shOr N n) true f args S }
theorem shOr_eq (N : Nat) : ∀ n, shOr N n = run (Cs N) n
  | 0 => rfl
  | n + 1 => by
    have h := shOr_eq N n
    unfold shOr run
    rw [h]
    congr 1
    congr 1
    funext f args S
    exact dispC_eq N _ f args S
end Go.Sac
