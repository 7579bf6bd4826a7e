/- The machine's tables, out of a program: types, looks, functions. Nothing of one program. -/
import Derived.Test.YtahilinkfnchaaaDoorTF
set_option linter.unusedVariables false
set_option linter.unusedSimpArgs false
namespace Go.Proofs.YtahilinkfnchaaaDoor.T
open Go Go.RowKit
open Glo (N)

def isStructB (P : Program) (t : TypeId) : Bool := match P.underlying t with | some (.struct _) => true | _ => false
def eqkOf (P : Program) (t : TypeId) : Option (List EK) :=
  bif isStructB P t && !P.eqGuardType P.depth t then kindsE P 6 t else none
theorem eqkOf_ok {P : Program} {t : TypeId} {ks : List EK} (h : eqkOf P t = some ks) : EqFits P t ks := by
  unfold eqkOf at h
  cases c : isStructB P t && !P.eqGuardType P.depth t with
  | false => rw [c] at h; cases h
  | true =>
    rw [c] at h
    simp only [Bool.and_eq_true, Bool.not_eq_true'] at c
    refine ⟨c.2, ?_, 6, by omega, h⟩
    have := c.1
    unfold isStructB at this
    cases hu : P.underlying t with
    | none => rw [hu] at this; cases this
    | some d => cases d <;> rw [hu] at this <;> first | (cases this; done) | exact ⟨_, rfl⟩

/-- A type's own method whose receiver is a value: its function. -/
def mthOf (P : Program) (t : TypeId) (nm : String) : Option Nat :=
  (P.info? t).bind fun i => (P.underlying t).bind fun d => if isPtrD d = true then none else
    (i.methods.toList.find? fun m => m.name == nm).bind fun m => if m.path.toList.isEmpty = true then (match m.func with | some (f, false) => some f | _ => none) else none
theorem mthOf_ok {P : Program} {t : TypeId} {nm : String} {f : Nat} (h : mthOf P t nm = some f) (n : Nat) (v : Value) (w : World) : (method (n + 1) t v nm).run P w = .ok (f, v) w := by
  unfold mthOf at h
  obtain ⟨i, hi, h⟩ := Option.bind_eq_some_iff.1 h
  obtain ⟨d, hd, h⟩ := Option.bind_eq_some_iff.1 h
  split at h
  · cases h
  rename_i hp
  obtain ⟨m, hm, h⟩ := Option.bind_eq_some_iff.1 h
  rw [Array.find?_toList] at hm
  split at h
  · rename_i hpe
    have hpath : m.path.toList = [] := List.isEmpty_iff.1 hpe
    split at h
    · rename_i g hf
      obtain rfl := Option.some.inj h
      unfold method
      simp only [Sem.run_bind, typeInfo, run_program, hi, Result.andThen_ok, Sem.run_pure, hm, hpath, follow, hf]
      unfold receiverAt
      simp only [Sem.run_bind, run_underlying hd, Result.andThen_ok]
      cases d <;> first | rfl | (simp [isPtrD] at hp)
    · cases h
  · cases h

def typesOf (P : Program) : Types := fun t =>
  (P.underlying t).bind fun d => (P.info? t).bind fun i => i.zero.bind fun z =>
    if ((constA z).cells.length == i.size && allOne (constA z).cells && Nat.blt i.size MB) = true then some ⟨d, i.size, i.bytes, constA z, eqkOf P t, mthOf P t⟩ else none

theorem typesOf_ok (P : Program) : TOk P (typesOf P) where
  ok t i h := by
    unfold typesOf at h
    obtain ⟨d, h1, h⟩ := Option.bind_eq_some_iff.1 h
    obtain ⟨info, h2, h⟩ := Option.bind_eq_some_iff.1 h
    obtain ⟨z, h3, h⟩ := Option.bind_eq_some_iff.1 h
    split at h
    · rename_i c
      simp only [Bool.and_eq_true, beq_iff_eq] at c
      obtain rfl := Option.some.inj h
      exact ⟨info, z, h1, h2, rfl, rfl, h3, fun m => constA_rel m z, c.1.1, c.1.2⟩
    · cases h
  eqk t i ks h hk := by
    unfold typesOf at h
    obtain ⟨d, h1, h⟩ := Option.bind_eq_some_iff.1 h
    obtain ⟨info, h2, h⟩ := Option.bind_eq_some_iff.1 h
    obtain ⟨z, h3, h⟩ := Option.bind_eq_some_iff.1 h
    split at h
    · obtain rfl := Option.some.inj h
      exact eqkOf_ok hk
    · cases h
  small t i h := by
    unfold typesOf at h
    obtain ⟨d, h1, h⟩ := Option.bind_eq_some_iff.1 h
    obtain ⟨info, h2, h⟩ := Option.bind_eq_some_iff.1 h
    obtain ⟨z, h3, h⟩ := Option.bind_eq_some_iff.1 h
    split at h
    · rename_i c
      obtain rfl := Option.some.inj h
      simp only [Bool.and_eq_true, Nat.blt_eq] at c
      exact c.2
    · cases h
  mth t i nm f h hk := by
    unfold typesOf at h
    obtain ⟨d, h1, h⟩ := Option.bind_eq_some_iff.1 h
    obtain ⟨info, h2, h⟩ := Option.bind_eq_some_iff.1 h
    obtain ⟨z, h3, h⟩ := Option.bind_eq_some_iff.1 h
    split at h
    · rename_i c
      obtain rfl := Option.some.inj h
      exact fun n v w => mthOf_ok hk n v w
    · cases h

/-- What values of a type look like. -/
def kindsOf (P : Program) : Nat → TypeId → Option (List FK)
  | 0, _ => none
  | n + 1, t => match P.underlying t with
    | some (.int k) => some [.int k]
    | some .bool => some [.bool]
    | some .string => some [.str]
    | some (.pointer _) => some [.ptr]
    | some (.slice _) => some [.sl]
    | some (.struct fs) => fs.toList.foldr (fun f r => r.bind fun b => (kindsOf P n f.type).map fun a => a ++ b) (some [])
    | some (.func ..) => some [.any]
    | some (.map ..) => some [.mp]
    | some (.interface ..) => some [.any]
    | some (.array ..) => none
    | _ => none
def look1 (P : Program) (t : TypeId) : Look :=
  match P.underlying t with
  | some (.struct _) => match kindsOf P 5 t with
    | some ks => if Nat.ble ks.length 40 then .agg ks else .row
    | none => .row
  | some (.array ..) => .row
  | some (.int k) => .one (.int k)
  | some .bool => .one .bool
  | some .string => .one .str
  | some (.pointer _) => .one .ptr
  | some (.slice _) => .one .sl
  | some (.map ..) => .one .mp
  | _ => .one .any
def looksOf (P : Program) (t : TypeId) : Look :=
  match P.underlying t with
  | some (.tuple ts) => .tup (ts.toList.map (look1 P))
  | _ => look1 P t

/-- The package variables that are laid (none, where nothing is said of them). -/
def machOf (P : Program) : Mach := ⟨typesOf P, looksOf P, P.globals.size⟩

/-- Live slots, by function and region. -/
def inList {α : Type} : List (Nat × α) → Nat → Option α
  | [], _ => none
  | p :: l, t => bif Nat.beq t p.1 then some p.2 else inList l t
def keepOf (l : List (Nat × List (Nat × Bool × List Nat))) (f r : Nat) : Option (Bool × List Nat) := (inList l f).bind fun m => inList m r

def funsOf (P : Program) (kp : Nat → Keep) (f : Nat) : Option AFun :=
  (P.funcs[f]?).bind fun fn => fn.body.bind fun b => if (fn.name == "runtime.NumGoroutine") = false then some ⟨b, fn.ntmps, fn.results.toList, kp f⟩ else none

theorem funsOf_ok (P : Program) (kp : Nat → Keep) : FOk P (funsOf P kp) := ⟨fun f fn h => by
  unfold funsOf at h
  obtain ⟨cf, h1, h⟩ := Option.bind_eq_some_iff.1 h
  obtain ⟨b, h2, h⟩ := Option.bind_eq_some_iff.1 h
  split at h
  · rename_i c
    obtain rfl := Option.some.inj h
    exact ⟨cf, h1, h2, rfl, rfl, c⟩
  · cases h⟩

/-- A program's calls on the machine, and that memory follows. -/
noncomputable def callP (P : Program) (kp : Nat → Keep) (n : Nat) : YldF → CallF := acall drawK (machOf P) (funsOf P kp) n

/-- One call more, with jumps held still. -/
noncomputable def rootJ (J : StepF Res → StepF Res) (P : Program) (kp : Nat → Keep) (cy : YldF → CallF) (Y : YldF) (lf f : Nat) (args : List AV) (h : AHeap) (nx : Nat) : Option Res :=
  match funsOf P kp f with
  | some fn => (match fn.keep 9000000 with
    | some q => orcK q.2 args h nx
    | none => aexec J drawK (machOf P) cy Y fn.keep lf fn.body (retK (machOf P) fn) ⟨args.length + (fn.ntmps - args.length), fun t => args.getD t .bad, (machOf P).gk⟩ h nx)
  | none => none
theorem callP_succ (P : Program) (kp : Nat → Keep) (n : Nat) (Y : YldF) (f : Nat) (args : List AV) (h : AHeap) (nx : Nat) : callP P kp (n + 1) Y f args h nx = rootJ go1 P kp (callP P kp n) Y n f args h nx := rfl

/-- What is known by contracts is so. -/
def OrcsOk [Glo] (P : Program) (kp : Nat → Keep) : Prop := ∀ f q, kp f 9000000 = some q → OrcOk P q.2 f
theorem funs_keep {P : Program} {kp : Nat → Keep} {f : Nat} {fn : AFun} (h : funsOf P kp f = some fn) : fn.keep = kp f := by
  unfold funsOf at h
  obtain ⟨cf, h1, h⟩ := Option.bind_eq_some_iff.1 h
  obtain ⟨b, h2, h⟩ := Option.bind_eq_some_iff.1 h
  split at h
  · obtain rfl := Option.some.inj h; rfl
  · cases h
/-- Those of a table that are known by contracts. -/
def orcsIn : List (Nat × List (Nat × Bool × List Nat)) → List (Nat × Bool × List Nat)
  | [] => []
  | p :: l => match inList p.2 9000000 with | some q => (p.1, q) :: orcsIn l | none => orcsIn l
theorem orcsIn_ok : ∀ (l : List (Nat × List (Nat × Bool × List Nat))) (f : Nat) (q : Bool × List Nat), keepOf l f 9000000 = some q → (f, q) ∈ orcsIn l
  | [], f, q, h => by simp [keepOf, inList] at h
  | p :: l, f, q, h => by
    unfold keepOf at h
    simp only [inList] at h
    unfold orcsIn
    cases c : Nat.beq f p.1 with
    | true =>
      rw [c] at h
      obtain rfl := Nat.eq_of_beq_eq_true c
      simp only [cond_true, Option.bind_some] at h
      rw [h]; exact List.mem_cons_self
    | false =>
      rw [c] at h
      have := orcsIn_ok l f q h
      split
      · exact List.mem_cons_of_mem _ this
      · exact this
theorem orcs_none [Glo] {P : Program} {l : List (Nat × List (Nat × Bool × List Nat))} (h : orcsIn l = []) : OrcsOk P (keepOf l) := fun f q hq => by
  have := orcsIn_ok l f q hq; rw [h] at this; cases this
theorem orcs_one [Glo] {P : Program} {l : List (Nat × List (Nat × Bool × List Nat))} {f : Nat} {q : Bool × List Nat} (h : orcsIn l = [(f, q)]) (k : OrcOk P q.2 f) : OrcsOk P (keepOf l) := fun f' q' hq => by
  have := orcsIn_ok l f' q' hq; rw [h] at this
  simp only [List.mem_singleton, Prod.mk.injEq] at this
  obtain ⟨rfl, rfl⟩ := this; exact k
theorem callP_orc {P : Program} {kp : Nat → Keep} {f : Nat} {q : Bool × List Nat} {fn : AFun} (hf : funsOf P kp f = some fn) (hq : kp f 9000000 = some q) (n : Nat) (Y : YldF) (args : List AV) (h : AHeap) (nx : Nat) : callP P kp (n + 1) Y f args h nx = orcK q.2 args h nx := by
  rw [callP_succ]; unfold rootJ; rw [hf]; simp only; rw [funs_keep hf, hq]

theorem callP_ok [Glo] {P : Program} (hm : P.follows .mixedOrders = true) (hgk : P.globals.size ≤ Glo.gk) (kp : Nat → Keep) (hx : OrcsOk P kp) (n : Nat) : CallOk P [] (callP P kp n Y0) :=
  acall_draw hm (typesOf_ok P) hgk (funsOf_ok P kp) (fun f fn q hf hq => hx f q (by rw [← funs_keep hf]; exact hq)) n [] Y0 (YOk.nil P [])

end Go.Proofs.YtahilinkfnchaaaDoor.T
