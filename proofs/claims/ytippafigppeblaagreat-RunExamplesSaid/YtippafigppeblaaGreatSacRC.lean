/- Checksums that the kernel has once: each is what the function computes for these bytes. -/
import Derived.KernelRfl
import Derived.Test.YtippafigppeblaaGreatSacRT
namespace Go.Sac
set_option linter.unusedVariables false
set_option maxRecDepth 100000
open Go
def isNoneS (S : St) : Bool := match S with
  | ⟨[], [], none⟩ => true
  | _ => false
theorem isNoneS_eq {S : St} (h : isNoneS S = true) : S = St.none := by
  unfold isNoneS at h
  split at h
  · rfl
  · cases h
def crcGet (s : List UInt8) : List (List UInt8 × Int × Int) → Option (Int × Int)
  | [] => none
  | (t, v, r) :: l => bif s == t then some (v, r) else crcGet s l
theorem crcGet_mem : ∀ (l : List (List UInt8 × Int × Int)) (s : List UInt8) (v r : Int), crcGet s l = some (v, r) → (s, v, r) ∈ l
  | [], _, _, _, h => by cases h
  | (t, v', r') :: l, s, v, r, h => by
    unfold crcGet at h
    cases hb : (s == t)
    · rw [hb] at h
      exact List.mem_cons_of_mem _ (crcGet_mem l s v r h)
    · rw [hb] at h
      have hs : s = t := by simpa using hb
      subst hs
      cases h
      exact List.mem_cons_self ..
def crcs : List (List UInt8 × Int × Int) := [
  ([0, 0, 0, 0, 0, 1, 0, 0, 0, 1, 0, 0, 0, 0, 0, 0, 1, 0, 0], 2835818768, 1459148527),
  ([0, 0, 0, 1, 0, 0, 0, 0, 0, 1, 0, 1, 2, 15, 1, 1, 7, 4, 4, 4, 1, 80, 1, 0, 2, 20, 2, 8, 0], 1440083029, 2854884266),
  ([0, 0, 0, 1, 0, 0, 0, 0, 0, 2, 0, 1, 2, 2, 9, 0], 3818720741, 476246554),
  ([0, 0, 0, 1, 0, 0, 0, 0, 0, 3, 0, 1, 2, 4, 4, 7, 0, 0], 1937745357, 2357221938),
  ([0, 0, 0, 1, 0, 0, 0, 0, 0, 4, 0, 1, 2, 5, 5, 7, 0, 1, 1], 1297665694, 2997301601),
  ([0, 0, 0, 0, 0, 2, 0, 0, 0, 2, 0, 0, 0, 0, 0, 0, 1, 0, 0], 1045542856, 3249424439),
  ([0, 0, 0, 2, 0, 0, 0, 0, 0, 4, 0, 1, 2, 5, 8, 7, 0, 0, 1], 2233175964, 2061791331)]
theorem c0 (n : Nat) : dispC 1000000 (shOr 1000000 (n + 1)) 398 [.int .u32 0, .str [0, 0, 0, 0, 0, 1, 0, 0, 0, 1, 0, 0, 0, 0, 0, 0, 1, 0, 0]] St.none = some (.ret (.int .u32 2835818768), ⟨[.cells [.int .u32 1459148527]], [], none⟩) := by kernel_rfl
theorem c1 (n : Nat) : dispC 1000000 (shOr 1000000 (n + 1)) 398 [.int .u32 0, .str [0, 0, 0, 1, 0, 0, 0, 0, 0, 1, 0, 1, 2, 15, 1, 1, 7, 4, 4, 4, 1, 80, 1, 0, 2, 20, 2, 8, 0]] St.none = some (.ret (.int .u32 1440083029), ⟨[.cells [.int .u32 2854884266]], [], none⟩) := by kernel_rfl
theorem c2 (n : Nat) : dispC 1000000 (shOr 1000000 (n + 1)) 398 [.int .u32 0, .str [0, 0, 0, 1, 0, 0, 0, 0, 0, 2, 0, 1, 2, 2, 9, 0]] St.none = some (.ret (.int .u32 3818720741), ⟨[.cells [.int .u32 476246554]], [], none⟩) := by kernel_rfl
theorem c3 (n : Nat) : dispC 1000000 (shOr 1000000 (n + 1)) 398 [.int .u32 0, .str [0, 0, 0, 1, 0, 0, 0, 0, 0, 3, 0, 1, 2, 4, 4, 7, 0, 0]] St.none = some (.ret (.int .u32 1937745357), ⟨[.cells [.int .u32 2357221938]], [], none⟩) := by kernel_rfl
theorem c4 (n : Nat) : dispC 1000000 (shOr 1000000 (n + 1)) 398 [.int .u32 0, .str [0, 0, 0, 1, 0, 0, 0, 0, 0, 4, 0, 1, 2, 5, 5, 7, 0, 1, 1]] St.none = some (.ret (.int .u32 1297665694), ⟨[.cells [.int .u32 2997301601]], [], none⟩) := by kernel_rfl
theorem c5 (n : Nat) : dispC 1000000 (shOr 1000000 (n + 1)) 398 [.int .u32 0, .str [0, 0, 0, 0, 0, 2, 0, 0, 0, 2, 0, 0, 0, 0, 0, 0, 1, 0, 0]] St.none = some (.ret (.int .u32 1045542856), ⟨[.cells [.int .u32 3249424439]], [], none⟩) := by kernel_rfl
theorem c6 (n : Nat) : dispC 1000000 (shOr 1000000 (n + 1)) 398 [.int .u32 0, .str [0, 0, 0, 2, 0, 0, 0, 0, 0, 4, 0, 1, 2, 5, 8, 7, 0, 0, 1]] St.none = some (.ret (.int .u32 2233175964), ⟨[.cells [.int .u32 2061791331]], [], none⟩) := by kernel_rfl
theorem crcs_ok (n : Nat) : ∀ e ∈ crcs, dispC 1000000 (shOr 1000000 (n + 1)) 398 [.int .u32 0, .str e.1] St.none = some (.ret (.int .u32 e.2.1), ⟨[.cells [.int .u32 e.2.2]], [], none⟩) := by
  intro e he
  simp only [crcs, List.mem_cons, List.not_mem_nil, or_false] at he
  rcases he with rfl | rfl | rfl | rfl | rfl | rfl | rfl
  · exact c0 n
  · exact c1 n
  · exact c2 n
  · exact c3 n
  · exact c4 n
  · exact c5 n
  · exact c6 n
noncomputable def fastC (n : Nat) (κ : Oracles) (f : FuncId) (args : List AV) (S : St) : R :=
  bif Nat.beq f 398 && (Nat.blt 0 n && isNoneS S) then match args with
    | [.int .u32 0, .str s] => match crcGet s crcs with
      | some (v, r) => some (.ret (.int .u32 v), ⟨[.cells [.int .u32 r]], [], none⟩)
      | none => dispC 1000000 κ f args S
    | _ => dispC 1000000 κ f args S
  else dispC 1000000 κ f args S
theorem fastC_eq (n : Nat) (f : FuncId) (args : List AV) (S : St) : fastC n (shOr 1000000 n) f args S = dispC 1000000 (shOr 1000000 n) f args S := by
  unfold fastC
  cases hc : (Nat.beq f 398 && (Nat.blt 0 n && isNoneS S))
  · rfl
  · simp only [Bool.and_eq_true] at hc
    obtain ⟨h1, h2, h3⟩ := hc
    have h1 : f = 398 := by simpa using h1
    have h3 := isNoneS_eq h3
    subst h1 h3
    cases n with
    | zero => cases h2
    | succ n =>
      simp only [cond_true]
      split
      · rename_i s
        split
        · rename_i v r hg
          exact (crcs_ok n _ (crcGet_mem _ _ _ _ hg)).symm
        · rfl
      · rfl
noncomputable def fastOr : Nat → Oracles
  | 0 => shOr 1000000 0
  | n + 1 =>
    { call := fun f args S => fastC n (fastOr n) f args S
      yld := fun o args S => runY (Cs 1000000) (fastOr n).toOracle o args S
      dcall := fun f args S => runF (Cs 1000000) (fastOr n) true f args S }
theorem fastOr_eq : ∀ n, fastOr n = shOr 1000000 n
  | 0 => rfl
  | n + 1 => by
    have h := fastOr_eq n
    unfold fastOr shOr
    rw [h]
    congr 1
    congr 1
    funext f args S
    exact fastC_eq n f args S
end Go.Sac
