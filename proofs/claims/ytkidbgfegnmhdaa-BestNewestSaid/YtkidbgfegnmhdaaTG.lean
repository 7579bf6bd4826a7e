/- The machine's tables, out of a program: types, looks, functions. Nothing of one program. -/
import Derived.Test.YtkidbgfegnmhdaaTF
set_option linter.unusedVariables false
set_option linter.unusedSimpArgs false
namespace Go.Proofs.Ytkidbgfegnmhdaa.T
open Go Go.RowKit

def isStructB (P : Program) (t : TypeId) : Bool := match P.underlying t with | some (.struct _) => true | _ => false
def eqkOf (P : Program) (t : TypeId) : Option (List EK) :=
  bif isStructB P t && !P.eqGuardType P.depth t then kindsE P 6 t else none
theorem eqkOf_ok {P : Program} {t : TypeId} {ks : List EK} (h : eqkOf P t = some ks) : EqFits P t ks := by
  unfold eqkOf at h
  cases c : isStructB P t && !P.eqGuardType P.depth t with
  | false => rw [c] at h; cases h
  | true =>
    rw [c] at h
    simp only [Bool.and_eq_true, Bool.not_eq_true'] at c
    refine ⟨c.2, ?_, 6, by omega, h⟩
    have := c.1
    unfold isStructB at this
    cases hu : P.underlying t with
    | none => rw [hu] at this; cases this
    | some d => cases d <;> rw [hu] at this <;> first | (cases this; done) | exact ⟨_, rfl⟩

def typesOf (P : Program) : Types := fun t =>
  (P.underlying t).bind fun d => (P.info? t).bind fun i => i.zero.bind fun z =>
    if ((constA z).cells.length == i.size && allOne (constA z).cells && Nat.blt i.size LB) = true then some ⟨d, i.size, i.bytes, constA z, eqkOf P t⟩ else none

theorem typesOf_ok (P : Program) : TOk P (typesOf P) where
  ok t i h := by
    unfold typesOf at h
    obtain ⟨d, h1, h⟩ := Option.bind_eq_some_iff.1 h
    obtain ⟨info, h2, h⟩ := Option.bind_eq_some_iff.1 h
    obtain ⟨z, h3, h⟩ := Option.bind_eq_some_iff.1 h
    split at h
    · rename_i c
      simp only [Bool.and_eq_true, beq_iff_eq] at c
      obtain rfl := Option.some.inj h
      exact ⟨info, z, h1, h2, rfl, rfl, h3, fun m => constA_rel m z, c.1.1, c.1.2⟩
    · cases h
  eqk t i ks h hk := by
    unfold typesOf at h
    obtain ⟨d, h1, h⟩ := Option.bind_eq_some_iff.1 h
    obtain ⟨info, h2, h⟩ := Option.bind_eq_some_iff.1 h
    obtain ⟨z, h3, h⟩ := Option.bind_eq_some_iff.1 h
    split at h
    · obtain rfl := Option.some.inj h
      exact eqkOf_ok hk
    · cases h
  small t i h := by
    unfold typesOf at h
    obtain ⟨d, h1, h⟩ := Option.bind_eq_some_iff.1 h
    obtain ⟨info, h2, h⟩ := Option.bind_eq_some_iff.1 h
    obtain ⟨z, h3, h⟩ := Option.bind_eq_some_iff.1 h
    split at h
    · rename_i c
      obtain rfl := Option.some.inj h
      simp only [Bool.and_eq_true, Nat.blt_eq] at c
      exact c.2
    · cases h

/-- What values of a type look like. -/
def kindsOf (P : Program) : Nat → TypeId → Option (List FK)
  | 0, _ => none
  | n + 1, t => match P.underlying t with
    | some (.int k) => some [.int k]
    | some .bool => some [.bool]
    | some .string => some [.str]
    | some (.pointer _) => some [.ptr]
    | some (.slice _) => some [.sl]
    | some (.struct fs) => fs.toList.foldr (fun f r => r.bind fun b => (kindsOf P n f.type).map fun a => a ++ b) (some [])
    | some (.func ..) => some [.any]
    | some (.map ..) => some [.any]
    | some (.interface ..) => some [.any]
    | some (.array ..) => none
    | _ => none
def look1 (P : Program) (t : TypeId) : Look :=
  match P.underlying t with
  | some (.struct _) => match kindsOf P 5 t with
    | some ks => if Nat.ble ks.length 40 then .agg ks else .row
    | none => .row
  | some (.array ..) => .row
  | some (.int k) => .one (.int k)
  | some .bool => .one .bool
  | some .string => .one .str
  | some (.pointer _) => .one .ptr
  | some (.slice _) => .one .sl
  | _ => .one .any
def looksOf (P : Program) (t : TypeId) : Look :=
  match P.underlying t with
  | some (.tuple ts) => .tup (ts.toList.map (look1 P))
  | _ => look1 P t

def machOf (P : Program) : Mach := ⟨typesOf P, looksOf P⟩

/-- Live slots, by function and region. -/
def inList {α : Type} : List (Nat × α) → Nat → Option α
  | [], _ => none
  | p :: l, t => bif Nat.beq t p.1 then some p.2 else inList l t
def keepOf (l : List (Nat × List (Nat × Bool × List Nat))) (f r : Nat) : Option (Bool × List Nat) := (inList l f).bind fun m => inList m r

def funsOf (P : Program) (kp : Nat → Keep) (f : Nat) : Option AFun :=
  (P.funcs[f]?).bind fun fn => fn.body.bind fun b => if (fn.name == "runtime.NumGoroutine") = false then some ⟨b, fn.ntmps, fn.results.toList, kp f⟩ else none

theorem funsOf_ok (P : Program) (kp : Nat → Keep) : FOk P (funsOf P kp) := ⟨fun f fn h => by
  unfold funsOf at h
  obtain ⟨cf, h1, h⟩ := Option.bind_eq_some_iff.1 h
  obtain ⟨b, h2, h⟩ := Option.bind_eq_some_iff.1 h
  split at h
  · rename_i c
    obtain rfl := Option.some.inj h
    exact ⟨cf, h1, h2, rfl, rfl, c⟩
  · cases h⟩

/-- A program's calls on the machine, and that memory follows. -/
noncomputable def callP (P : Program) (kp : Nat → Keep) (n : Nat) : YldF → CallF := acall drawK (machOf P) (funsOf P kp) n

/-- One call more, with jumps held still. -/
noncomputable def rootJ (J : StepF Res → StepF Res) (P : Program) (kp : Nat → Keep) (cy : YldF → CallF) (Y : YldF) (lf f : Nat) (args : List AV) (h : AHeap) (nx : Nat) : Option Res :=
  match funsOf P kp f with
  | some fn => aexec J drawK (machOf P) cy Y fn.keep lf fn.body (retK (machOf P) fn) ⟨args.length + (fn.ntmps - args.length), fun t => args.getD t .bad⟩ h nx
  | none => none
theorem callP_succ (P : Program) (kp : Nat → Keep) (n : Nat) (Y : YldF) (f : Nat) (args : List AV) (h : AHeap) (nx : Nat) : callP P kp (n + 1) Y f args h nx = rootJ go1 P kp (callP P kp n) Y n f args h nx := rfl

theorem callP_ok {P : Program} (hm : P.follows .mixedOrders = true) (kp : Nat → Keep) (n : Nat) : CallOk P [] (callP P kp n Y0) :=
  acall_draw hm (typesOf_ok P) (funsOf_ok P kp) n [] Y0 (YOk.nil P [])

end Go.Proofs.Ytkidbgfegnmhdaa.T
