/- One operation that turns the state, at its place: all of them. -/
import Derived.Test.YtippafigppeblaaGreatSacZ
namespace Go.Sac
set_option linter.unusedVariables false
set_option linter.unusedSimpArgs false
open Go

theorem run_method {P : Program} {t : TypeId} {name : String} {f : FuncId} (h : methodOf P t name = some f) (n : Nat) (v : Value) (w : World) : (Go.method (n + 1) t v name).run P w = .ok (f, v) w := by
  unfold methodOf at h
  split at h
  · rename_i inf hi
    split at h
    · rename_i m hm
      split at h
      · cases h
      · rename_i g d hn hp hf hu
        cases h
        have hpath : m.path = #[] := by simpa using hp
        simp only [Go.method, Sem.run_bind, run_typeInfo w hi, Result.andThen_ok, hm, hpath, Array.toList_empty, Go.follow, Sem.run_pure, hf, Go.receiverAt, run_underlying hu]
        cases d <;> first | exact (hn _ rfl).elim | simp [Place.get]
      · cases h
    · cases h
  · cases h

section
variable {X : Ctx} {b : Frame} {cs : Callers} {up : Up} {n : Nat} {Q : Machine → Prop} {G : Gh} {S : St} {w : World} {e : Env} {a : Act} {all : Array Oper} {o : Oper} {i : Nat} {rest : List Nat} {kk : List Item}

theorem actOp_cases {X : Ctx} {op : Op} {dst : Option Nat} {e : Env} {S : St} {r : Ans × St} (h : actOp X op dst e S = some r) (hp : plainAct op = false) :
    (∃ x t v, op = .panic x ∧ e.ev x = .iface t v ∧ r = (.panic (.iface t v), S)) ∨ (∃ args tys, op = .call { callee := .builtin .recover, args, argTypes := tys } ∧ oBuiltin X .recover (args.toList.map e.ev) tys.toList (X.ownAt dst) S = some r) ∨
    (∃ f args tys, op = .call { callee := .value f, args, argTypes := tys } ∧ callV X (e.ev f) (args.toList.map e.ev) S = some r) ∨
    (∃ x name args tys t v f, op = .call { callee := .invoke x name, args, argTypes := tys } ∧ e.ev x = .iface t v ∧ methodOf X.P t name = some f ∧ callV X (.func f [] []) (v :: args.toList.map e.ev) S = some r) := by
  cases op <;> simp only [plainAct, Bool.true_eq_false, reduceCtorEq] at hp <;> simp only [actOp, reduceCtorEq] at h
  case panic x =>
    split at h
    · rename_i t v hx
      cases h
      exact .inl ⟨x, t, v, rfl, hx, rfl⟩
    · cases h
  case call c =>
    obtain ⟨callee, args, tys⟩ := c
    cases callee
    case builtin bb =>
      cases bb <;> simp only [Bool.true_eq_false] at hp <;> simp only [oBuiltin, reduceCtorEq] at h
      exact .inr (.inl ⟨args, tys, rfl, by simpa only [oBuiltin] using h⟩)
    case value f => exact .inr (.inr (.inl ⟨f, args, tys, rfl, h⟩))
    case invoke x name =>
      simp only at h
      split at h
      · rename_i t v hx
        simp only [Option.bind_eq_some_iff] at h
        obtain ⟨f, h1, h⟩ := h
        exact .inr (.inr (.inr ⟨x, name, args, tys, t, v, f, rfl, hx, h1, h⟩))
      · cases h

end

end Go.Sac
