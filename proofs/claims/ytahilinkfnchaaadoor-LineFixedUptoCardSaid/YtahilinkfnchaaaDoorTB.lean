/- Regions that draw their order: one run in the order of the text, and a check that what is not ordered does not meet, serves every order. Nothing of a program. -/
import Derived.Test.YtahilinkfnchaaaDoorTA
set_option linter.unusedVariables false
set_option linter.unusedSimpArgs false
namespace Go.Proofs.YtahilinkfnchaaaDoor.T
open Go Go.RowKit
open Glo (N)

variable {R : Type} {T : Types} {h : AHeap}

/-! ### an operation's effect does not hang on who reads it -/
theorem intA_bind (op : BinOp) (k : IntKind) (a b : Int) (K : AV → Option R) : intA op k a b K = (intA op k a b some).bind K := by
  cases op <;> simp only [intA] <;> (try rfl) <;> (split <;> rfl)
theorem shiftA_bind (op : BinOp) (k : IntKind) (a b : Int) (K : AV → Option R) : shiftA op k a b K = (shiftA op k a b some).bind K := by
  unfold shiftA; split
  · rfl
  · cases op <;> rfl
theorem strA_bind (op : BinOp) (a b : ByteArray) (K : AV → Option R) : strA op a b K = (strA op a b some).bind K := by
  cases op <;> simp only [strA] <;> (try rfl) <;> (split <;> rfl)
theorem eqlA_bind (op : BinOp) (b : Bool) (K : AV → Option R) : eqlA op b K = (eqlA op b some).bind K := by
  cases op <;> rfl
theorem binA_bind (t : Nat) (op : BinOp) (x y : AV) (K : AV → Option R) : binA T t op x y K = (binA T t op x y some).bind K := by
  unfold binA
  split
  · split
    · exact shiftA_bind _ _ _ _ _
    · split
      · exact intA_bind _ _ _ _ _
      · rfl
  · split
    · exact eqlA_bind _ _ _
    · rfl
  · exact strA_bind _ _ _ _
  · split
    · exact eqlA_bind _ _ _
    · rfl
  · split
    · exact eqlA_bind _ _ _
    · rfl
  · split
    · split
      · split
        · exact eqlA_bind _ _ _
        · rfl
      · rfl
    · rfl
  · rfl
theorem binN_bind (t : Nat) (op : BinOp) (yo : Operand) (x y : AV) (K : AV → Option R) : binN T t op yo x y K = (binN T t op yo x y some).bind K := by
  unfold binN
  split
  · simp only [Option.bind_assoc]
    congr 1; funext b
    split
    · exact eqlA_bind _ _ _
    · rfl
  · exact binA_bind _ _ _ _ _
theorem unA_bind (op : UnOp) (x : AV) (K : AV → Option R) : unA op x K = (unA op x some).bind K := by
  unfold unA; split <;> rfl

theorem ite_bind {α β : Type} (c : Prop) [Decidable c] (x y : Option α) (f : α → Option β) : (if c then x else y).bind f = if c then x.bind f else y.bind f := by split <;> rfl

theorem loadA_bind (t : Nat) (x : AV) (K : Eff → Option R) : loadA T t x h K = (loadA T t x h some).bind K := by
  unfold loadA
  split
  · simp only [Option.bind_assoc, ite_bind, Option.bind_some]
  · rfl
theorem storeA_bind (t : Nat) (x v : AV) (K : Eff → Option R) : storeA T t x v h K = (storeA T t x v h some).bind K := by
  unfold storeA
  split
  · simp only [Option.bind_assoc, Option.bind_some]
  · rfl
theorem boxA_bind (es : Nat) (cs : List AV) (id : Nat) (K : Eff → Option R) : boxA es cs id K = (boxA es cs id some).bind K := by
  unfold boxA; split <;> rfl
theorem allocA_bind (t id : Nat) (K : Eff → Option R) : allocA T t id K = (allocA T t id some).bind K := by
  unfold allocA; split
  · exact boxA_bind _ _ _ _
  · rfl
theorem fieldAddrA_bind (st : Nat) (x : AV) (f : Nat) (K : Eff → Option R) : fieldAddrA T st x f K = (fieldAddrA T st x f some).bind K := by
  unfold fieldAddrA
  repeat' (first | rfl | (simp only [Option.bind_assoc, Option.bind_some]; done) | split)
theorem indexAddrA_bind (t : Nat) (x i : AV) (K : Eff → Option R) : indexAddrA T t x i K = (indexAddrA T t x i some).bind K := by
  unfold indexAddrA
  repeat' (first | rfl | (simp only [Option.bind_assoc, ite_bind, Option.bind_some, Option.bind_none]; done) | split)
theorem sliceA_bind (t : Nat) (x : AV) (lo hi mx : Option AV) (K : Eff → Option R) : sliceA T t x lo hi mx h K = (sliceA T t x lo hi mx h some).bind K := by
  unfold sliceA
  repeat' (first | rfl | (simp only [Option.bind_assoc, ite_bind, Option.bind_some, Option.bind_none]; done) | split)
theorem lenA_bind (t : Nat) (x : AV) (K : Eff → Option R) : lenA T t x K = (lenA T t x some).bind K := by
  unfold lenA
  repeat' (first | rfl | split)
theorem appendA_bind (t tx : Nat) (s x : AV) (id : Nat) (K : Eff → Option R) : appendA T t tx s x id h K = (appendA T t tx s x id h some).bind K := by
  unfold appendA
  repeat' (first | rfl | (simp only [Option.bind_assoc, ite_bind, Option.bind_some, Option.bind_none]; done) | split)
theorem copyA_bind (t : Nat) (d x : AV) (K : Eff → Option R) : copyA T t d x h K = (copyA T t d x h some).bind K := by
  unfold copyA
  repeat' (first | rfl | (simp only [Option.bind_assoc, ite_bind, Option.bind_some, Option.bind_none]; done) | split)
theorem clearA_bind (t : Nat) (x : AV) (K : Eff → Option R) : clearA T t x h K = (clearA T t x h some).bind K := by
  unfold clearA
  repeat' (first | rfl | (simp only [Option.bind_assoc, ite_bind, Option.bind_some, Option.bind_none]; done) | split)
theorem makeA_bind (t : Nat) (l c : AV) (id : Nat) (K : Eff → Option R) : makeA T t l c id K = (makeA T t l c id some).bind K := by
  unfold makeA
  repeat' (first | rfl | split)
theorem buildA_bind (t : Nat) (ps : List (Nat × AV)) (K : Eff → Option R) : buildA T t ps K = (buildA T t ps some).bind K := by
  unfold buildA
  split
  · split
    · split
      · simp only [Option.bind_assoc]; rfl
      · rfl
    · split
      · simp only [Option.bind_assoc]; rfl
      · rfl
    · rfl
  · rfl
theorem buildSliceA_bind (t n : Nat) (ps : List (Nat × AV)) (id : Nat) (K : Eff → Option R) : buildSliceA T t n ps id K = (buildSliceA T t n ps id some).bind K := by
  unfold buildSliceA
  split
  · split
    · split
      · split
        · simp only [Option.bind_assoc]; congr 1; funext cs; split <;> rfl
        · rfl
      · rfl
    · rfl
  · rfl
theorem partA_bind (t : Nat) (cs : List AV) (off : Nat) (K : Eff → Option R) : partA T t cs off K = (partA T t cs off some).bind K := by
  unfold partA
  split
  · split
    · rfl
    · simp only [Option.bind_assoc]; rfl
  · rfl
theorem fieldA_bind (t : Nat) (x : AV) (f : Nat) (K : Eff → Option R) : fieldA T t x f K = (fieldA T t x f some).bind K := by
  unfold fieldA
  repeat' (first | rfl | exact partA_bind _ _ _ _ | split)
theorem indexA_bind (t : Nat) (x i : AV) (K : Eff → Option R) : indexA T t x i K = (indexA T t x i some).bind K := by
  unfold indexA
  repeat' (first | rfl | exact partA_bind _ _ _ _ | (simp only [Option.bind_assoc]; rfl) | split)
theorem convertA_bind (s d : Nat) (x : AV) (id : Nat) (K : Eff → Option R) : convertA T s d x id K = (convertA T s d x id some).bind K := by
  unfold convertA
  repeat' (first | rfl | (simp only [Option.bind_assoc]; congr 1; funext te; split <;> rfl) | split)
theorem extractA_bind (x : AV) (i : Nat) (K : Eff → Option R) : extractA x i K = (extractA x i some).bind K := by
  unfold extractA
  split
  · simp only [Option.bind_assoc]; rfl
  · rfl
theorem lenM_bind (t : Nat) (x : AV) (K : Eff → Option R) : lenM T t x h K = (lenM T t x h some).bind K := by
  unfold lenM
  split
  · simp only [Option.bind_assoc]; rfl
  · exact lenA_bind _ _ _
theorem delA_bind (t : Nat) (x k : AV) (K : Eff → Option R) : delA T t x k h K = (delA T t x k h some).bind K := by
  unfold delA
  split
  · simp only [Option.bind_assoc]; rfl
  · rfl
theorem lookupA_bind (t : Nat) (x k : AV) (ok : Bool) (K : Eff → Option R) : lookupA T t x k ok h K = (lookupA T t x k ok h some).bind K := by
  unfold lookupA
  split
  · simp only [Option.bind_assoc]; rfl
  · rfl
theorem mapUpdA_bind (t : Nat) (x k v : AV) (K : Eff → Option R) : mapUpdA T t x k v h K = (mapUpdA T t x k v h some).bind K := by
  unfold mapUpdA
  split
  · simp only [Option.bind_assoc]; rfl
  · rfl
theorem makeMapA_bind (t : Nat) (r : Option AV) (id : Nat) (K : Eff → Option R) : makeMapA T t r id K = (makeMapA T t r id some).bind K := by
  unfold makeMapA
  rw [Option.bind_assoc]
  congr 1
  funext te
  split <;> rfl
theorem builtinK_bind (b : Builtin) (ts : List TypeId) (args : List AV) (id : Nat) (K : Eff → Option R) : builtinK T b ts args id h K = (builtinK T b ts args id h some).bind K := by
  unfold builtinK
  split
  · exact lenM_bind _ _ _
  · exact delA_bind _ _ _ _
  · exact appendA_bind _ _ _ _ _ _
  · exact copyA_bind _ _ _ _
  · exact clearA_bind _ _ _
  · simp only [Option.bind_assoc]; rfl
  · simp only [Option.bind_assoc]; rfl
  · rfl

theorem opK_bind (fr : Fr) (op : Op) (id : Nat) (K : Eff → Option R) : opK T fr op id h K = (opK T fr op id h some).bind K := by
  unfold opK
  split
  · rfl
  · rfl
  · split <;> rfl
  · exact loadA_bind _ _ _
  · exact storeA_bind _ _ _ _
  · exact allocA_bind _ _ _
  · exact boxA_bind _ _ _ _
  · exact buildA_bind _ _ _
  · exact buildSliceA_bind _ _ _ _ _
  · exact fieldAddrA_bind _ _ _ _
  · exact fieldA_bind _ _ _ _
  · exact indexAddrA_bind _ _ _ _
  · exact indexA_bind _ _ _ _
  · exact sliceA_bind _ _ _ _ _ _
  · exact makeA_bind _ _ _ _ _
  · refine (binN_bind _ _ _ _ _ _).trans ?_
    refine Eq.trans ?_ (congrArg (fun z => Option.bind z K) (binN_bind (T := T) _ _ _ _ _ (fun v => (some ⟨v, [], []⟩ : Option Eff))).symm)
    rw [Option.bind_assoc]; rfl
  · refine (unA_bind _ _ _).trans ?_
    refine Eq.trans ?_ (congrArg (fun z => Option.bind z K) (unA_bind _ _ (fun v => (some ⟨v, [], []⟩ : Option Eff))).symm)
    rw [Option.bind_assoc]; rfl
  · exact convertA_bind _ _ _ _ _
  · exact extractA_bind _ _ _
  · exact lookupA_bind _ _ _ _ _
  · exact mapUpdA_bind _ _ _ _ _
  · exact makeMapA_bind _ _ _ _
  · exact rangeA_bind _ _ _ _
  · exact nextA_bind _ _ _
  · rw [Option.bind_assoc]
    congr 1
    funext ti
    split <;> rfl
  · split <;> rfl
  · split
    · simp only [Option.bind_assoc, Option.bind_some]
    · rfl
    · rfl
  · exact builtinK_bind _ _ _ _ _
  · rfl


/-! ### an operation's effect hangs on what it reads alone -/
/-- On another heap that holds the same at what was read, the same; what is set was read, or is new. -/
def Loc (f : AHeap → Option Eff) (id : Nat) (h : AHeap) : Prop := ∀ e, f h = some e → (∀ p ∈ e.sets, p.1 = id ∨ p.1 ∈ e.reads) ∧ ∀ h2 : AHeap, (∀ i ∈ e.reads, h2 i = h i) → f h2 = some e

theorem Loc.const {x : Option Eff} {id : Nat} {h : AHeap} (hs : ∀ e, x = some e → ∀ p ∈ e.sets, p.1 = id) : Loc (fun _ => x) id h := fun e he => ⟨fun p hp => .inl (hs e he p hp), fun _ _ => he⟩

theorem loadA_loc (t : Nat) (x : AV) (id : Nat) : Loc (fun h => loadA T t x h some) id h := by
  intro e he
  simp only [loadA] at he ⊢
  split at he
  · rename_i a ti et
    cases a with
    | none => cases he
    | some a =>
      simp only [Option.bind_some] at he ⊢
      split at he
      · rename_i c
        obtain ⟨cs, hc, he⟩ := Option.bind_eq_some_iff.1 he
        obtain rfl := Option.some.inj he
        refine ⟨fun p hp => (by cases hp), fun h2 hh => ?_⟩
        have e1 := hh a.1 (by simp)
        rw [if_pos c, show ldR h2 a.1 a.2 ti.size = ldR h a.1 a.2 ti.size by unfold ldR; rw [e1], hc]; rfl
      · rename_i c
        obtain ⟨cs, hc, he⟩ := Option.bind_eq_some_iff.1 he
        obtain rfl := Option.some.inj he
        refine ⟨fun p hp => (by cases hp), fun h2 hh => ?_⟩
        have e1 := hh a.1 (by simp)
        rw [if_neg c, show ldA h2 a.1 a.2 = ldA h a.1 a.2 by unfold ldA; rw [e1], hc]; rfl
  · cases he

theorem storeA_loc (t : Nat) (x v : AV) (id : Nat) : Loc (fun h => storeA T t x v h some) id h := by
  intro e he
  simp only [storeA] at he ⊢
  split at he
  · rename_i a ti et
    cases a with
    | none => cases he
    | some a =>
      simp only [Option.bind_some] at he ⊢
      obtain ⟨b, hb, he⟩ := Option.bind_eq_some_iff.1 he
      obtain rfl := Option.some.inj he
      refine ⟨fun p hp => (by simp at hp; subst hp; exact .inr (by simp)), fun h2 hh => ?_⟩
      have e1 := hh a.1 (by simp)
      rw [show stA h2 a.1 a.2 v ti.size = stA h a.1 a.2 v ti.size by unfold stA; rw [e1], hb]; rfl
  · cases he

theorem mapD_loc {h h2 : AHeap} {r : Nat} (e : h2 r = h r) : mapD h2 r = mapD h r := by unfold mapD; rw [e]
theorem mapO_loc {h h2 : AHeap} {r : Option Nat} (e : ∀ i ∈ rdM r, h2 i = h i) : mapO h2 r = mapO h r := by
  cases r with
  | none => rfl
  | some r => exact mapD_loc (e r (by simp [rdM]))
theorem lookupA_loc (t : Nat) (x k : AV) (ok : Bool) (id : Nat) : Loc (fun h => lookupA T t x k ok h some) id h := by
  intro e he
  simp only [lookupA] at he ⊢
  split at he
  · rename_i r st
    obtain ⟨te, et, he⟩ := Option.bind_eq_some_iff.1 he
    obtain ⟨es, hes, he⟩ := Option.bind_eq_some_iff.1 he
    obtain ⟨o, ho, he⟩ := Option.bind_eq_some_iff.1 he
    obtain rfl := Option.some.inj he
    refine ⟨fun p hp => (by cases hp), fun h2 hh => ?_⟩
    rw [et, Option.bind_some, mapO_loc hh, hes, Option.bind_some, ho]; rfl
  · cases he
theorem mapUpdA_loc (t : Nat) (x k v : AV) (id : Nat) : Loc (fun h => mapUpdA T t x k v h some) id h := by
  intro e he
  simp only [mapUpdA] at he ⊢
  split at he
  · rename_i r st
    obtain ⟨te, et, he1⟩ := Option.bind_eq_some_iff.1 he
    clear he
    obtain ⟨r, hr, he2⟩ := Option.bind_eq_some_iff.1 he1
    clear he1
    subst hr
    obtain ⟨es, hes, he⟩ := Option.bind_eq_some_iff.1 he2
    clear he2
    obtain ⟨o, ho, he⟩ := Option.bind_eq_some_iff.1 he
    obtain rfl := Option.some.inj he
    refine ⟨fun p hp => (by simp at hp; subst hp; exact .inr (by simp)), fun h2 hh => ?_⟩
    rw [et, Option.bind_some, Option.bind_some, mapD_loc (hh r (by simp)), hes, Option.bind_some, ho]; rfl
  · cases he
theorem delA_loc (t : Nat) (x k : AV) (id : Nat) : Loc (fun h => delA T t x k h some) id h := by
  intro e he
  simp only [delA] at he ⊢
  split at he
  · rename_i r st
    obtain ⟨te, et, he1⟩ := Option.bind_eq_some_iff.1 he
    clear he
    obtain ⟨r, hr, he2⟩ := Option.bind_eq_some_iff.1 he1
    clear he1
    subst hr
    obtain ⟨es, hes, he⟩ := Option.bind_eq_some_iff.1 he2
    clear he2
    obtain ⟨o, ho, he⟩ := Option.bind_eq_some_iff.1 he
    obtain rfl := Option.some.inj he
    refine ⟨fun p hp => (by simp at hp; subst hp; exact .inr (by simp)), fun h2 hh => ?_⟩
    rw [et, Option.bind_some, Option.bind_some, mapD_loc (hh r (by simp)), hes, Option.bind_some, ho]; rfl
  · cases he
theorem lenM_loc (t : Nat) (x : AV) (id : Nat) : Loc (fun h => lenM T t x h some) id h := by
  intro e he
  simp only [lenM] at he ⊢
  split at he
  · rename_i r
    obtain ⟨te, et, he⟩ := Option.bind_eq_some_iff.1 he
    obtain ⟨es, hes, he⟩ := Option.bind_eq_some_iff.1 he
    obtain rfl := Option.some.inj he
    refine ⟨fun p hp => (by cases hp), fun h2 hh => ?_⟩
    rw [et, Option.bind_some, mapO_loc hh, hes]; rfl
  · refine ⟨fun p hp => ?_, fun h2 hh => he⟩
    simp only [lenA] at he
    repeat' (first | (cases he; done) | (obtain rfl := Option.some.inj he; cases hp; done) | split at he)
theorem nextA_loc (x : AV) (b : Bool) (id : Nat) : Loc (fun h => nextA x b h some) id h := by
  intro e he
  obtain ⟨a, q, _, _, _, hr, hs, hl⟩ := nextA_some he
  exact ⟨fun p hp => .inr (by rw [hr, hs p hp]; simp), fun h2 hh => hl h2 (hh a (by rw [hr]; simp))⟩
theorem cutA_loc {h h2 : AHeap} {a : Option (Nat × Nat)} {n : Nat} {clip : Option Nat} {es : Nat} {lo hi mx : Option AV} (hh : ∀ i ∈ rdOf a, h2 i = h i) : cutA h2 a n clip es lo hi mx = cutA h a n clip es lo hi mx := by
  have : esIs h2 a es = esIs h a es := by
    unfold esIs
    cases a with
    | none => rfl
    | some a => simp only; rw [hh a.1 (by simp [rdOf])]
  unfold cutA; rw [this]
theorem cutR_loc {h h2 : AHeap} {a : Option (Nat × Nat)} {n es : Nat} {lo hi mx : Option AV} (hh : ∀ i ∈ rdOf a, h2 i = h i) : cutR h2 a n es lo hi mx = cutR h a n es lo hi mx := by
  unfold cutR
  cases a with
  | none => rfl
  | some a => simp only [Option.bind_some]; rw [hh a.1 (by simp [rdOf])]

theorem sliceA_loc (t : Nat) (x : AV) (lo hi mx : Option AV) (id : Nat) : Loc (fun h => sliceA T t x lo hi mx h some) id h := by
  intro e he
  simp only [sliceA] at he ⊢
  split at he
  · rename_i a n clip ti et
    split at he
    · split at he
      · rename_i te ee
        obtain ⟨q, hq, he⟩ := Option.bind_eq_some_iff.1 he
        obtain rfl := Option.some.inj he
        refine ⟨fun p hp => (by cases hp), fun h2 hh => ?_⟩
        rw [cutA_loc hh, hq]; rfl
      · cases he
    · cases he
  · split at he
    · obtain ⟨q, hq, he⟩ := Option.bind_eq_some_iff.1 he
      obtain rfl := Option.some.inj he
      exact ⟨fun p hp => (by cases hp), fun h2 hh => by rw [hq]; rfl⟩
    · cases he
  · rename_i a ti et
    split at he
    · split at he
      · rename_i te ee
        obtain ⟨q, hq, he⟩ := Option.bind_eq_some_iff.1 he
        obtain rfl := Option.some.inj he
        refine ⟨fun p hp => (by cases hp), fun h2 hh => ?_⟩
        rw [cutR_loc hh, hq]; rfl
      · cases he
    · cases he
  · cases he

/-- What srcA reads. -/
theorem srcA_loc {tx : Nat} {x : AV} {es : Nat} {q : Nat × List AV × List Nat} (he : srcA T tx x es h = some q) (h2 : AHeap) (hh : ∀ i ∈ q.2.2, h2 i = h i) : srcA T tx x es h2 = some q := by
  unfold srcA at he ⊢
  split at he
  · rename_i a n c ti et
    split at he
    · rename_i c1
      simp only [if_pos c1]
      unfold srcS at he ⊢
      cases a with
      | none => exact he
      | some a =>
        simp only at he ⊢
        split at he
        · rename_i c2; rw [if_pos c2]; exact he
        · rename_i c2
          obtain ⟨b, hb, he⟩ := Option.bind_eq_some_iff.1 he
          split at he
          · rename_i c3
            obtain rfl := Option.some.inj he
            rw [if_neg c2, hh a.1 (by simp), hb]
            simp only [Option.bind_some, if_pos c3]
          · cases he
    · cases he
  · exact he
  · cases he

theorem appD_loc {a : Option (Nat × Nat)} {n : Nat} {clip : Option Nat} {es bytes id : Nat} {q : Nat × List AV × List Nat} {e : AE} (hk : appD h a n clip es bytes id q = some e) :
    (∀ p ∈ e.sets, p.1 = id ∨ p.1 ∈ e.reads) ∧ (∀ i ∈ q.2.2, i ∈ e.reads) ∧ ∀ h2 : AHeap, (∀ i ∈ e.reads, h2 i = h i) → appD h2 a n clip es bytes id q = some e := by
  unfold appD at hk ⊢
  by_cases c0 : q.1 = 0
  · rw [if_pos c0] at hk
    obtain rfl := Option.some.inj hk
    exact ⟨fun p hp => (by cases hp), fun i hi => hi, fun h2 _ => by rw [if_pos c0]⟩
  · rw [if_neg c0] at hk
    by_cases c1 : growOk (n + q.1) bytes = true
    · rw [if_pos c1] at hk
      cases a with
      | none =>
        simp only at hk
        obtain rfl := Option.some.inj hk
        exact ⟨fun p hp => (by simp at hp; subst hp; exact .inl rfl), fun i hi => hi, fun h2 _ => by rw [if_neg c0, if_pos c1]⟩
      | some a =>
        simp only at hk
        cases hb : h a.1 with
        | none => rw [hb] at hk; cases hk
        | some b =>
          rw [hb] at hk; simp only [Option.bind_some] at hk
          split at hk
          · rename_i c2
            split at hk
            · rename_i c3
              obtain rfl := Option.some.inj hk
              refine ⟨fun p hp => (by simp at hp; subst hp; exact .inl rfl), fun i hi => List.mem_cons_of_mem _ hi, fun h2 hh => ?_⟩
              rw [if_neg c0, if_pos c1]
              simp only [hh a.1 (by simp), hb, Option.bind_some, if_pos c2, if_pos c3]
            · rename_i c3
              split at hk
              · rename_i c4
                split at hk
                · rename_i c5
                  obtain rfl := Option.some.inj hk
                  refine ⟨fun p hp => (by simp at hp; subst hp; exact .inr (by simp)), fun i hi => List.mem_cons_of_mem _ hi, fun h2 hh => ?_⟩
                  rw [if_neg c0, if_pos c1]
                  simp only [hh a.1 (by simp), hb, Option.bind_some, if_pos c2, if_neg c3, if_pos c4, if_pos c5]
                · rename_i c5
                  obtain rfl := Option.some.inj hk
                  refine ⟨fun p hp => ?_, fun i hi => List.mem_cons_of_mem _ hi, fun h2 hh => ?_⟩
                  · simp at hp
                    rcases hp with rfl | rfl
                    · exact .inr (by simp)
                    · exact .inl rfl
                  · rw [if_neg c0, if_pos c1]
                    simp only [hh a.1 (by simp), hb, Option.bind_some, if_pos c2, if_neg c3, if_pos c4, if_neg c5]
              · cases hk
          · cases hk
    · rw [if_neg c1] at hk; cases hk

theorem appendA_loc (t tx : Nat) (s x : AV) (id : Nat) : Loc (fun h => appendA T t tx s x id h some) id h := by
  intro e he
  simp only [appendA] at he ⊢
  split at he
  · rename_i a n clip ti et
    split at he
    · split at he
      · rename_i te ee
        obtain ⟨q, hq, he⟩ := Option.bind_eq_some_iff.1 he
        obtain ⟨f, hf, he⟩ := Option.bind_eq_some_iff.1 he
        obtain rfl := Option.some.inj he
        have key := appD_loc hf
        refine ⟨key.1, fun h2 hh => ?_⟩
        rw [srcA_loc hq h2 (fun i hi => hh i (key.2.1 i hi))]
        simp only [Option.bind_some]
        rw [key.2.2 h2 hh]; rfl
      · cases he
    · cases he
  · cases he

theorem copD_loc {a c : Option (Nat × Nat)} {n k es : Nat} {e : Nat × List (Nat × Option ABlk) × List Nat} (he : copD h a n c k es = some e) :
    (∀ p ∈ e.2.1, p.1 ∈ e.2.2) ∧ ∀ h2 : AHeap, (∀ i ∈ e.2.2, h2 i = h i) → copD h2 a n c k es = some e := by
  unfold copD at he ⊢
  split at he
  · rename_i c0
    obtain rfl := Option.some.inj he
    exact ⟨fun p hp => (by cases hp), fun h2 _ => by rw [if_pos c0]⟩
  · rename_i c0
    cases a with
    | none => cases he
    | some a =>
    cases c with
    | none => cases he
    | some c =>
    simp only [Option.bind_some] at he
    obtain ⟨b, hb, he⟩ := Option.bind_eq_some_iff.1 he
    obtain ⟨s, hs, he⟩ := Option.bind_eq_some_iff.1 he
    split at he
    · rename_i c1
      obtain rfl := Option.some.inj he
      refine ⟨fun p hp => (by simp at hp; subst hp; simp), fun h2 hh => ?_⟩
      simp only [if_neg c0, Option.bind_some, hh a.1 (by simp), hh c.1 (by simp), hb, hs, if_pos c1]
    · cases he

theorem cleD_loc {a : Option (Nat × Nat)} {n es : Nat} {z : List AV} {e : List (Nat × Option ABlk) × List Nat} (he : cleD h a n es z = some e) :
    (∀ p ∈ e.1, p.1 ∈ e.2) ∧ ∀ h2 : AHeap, (∀ i ∈ e.2, h2 i = h i) → cleD h2 a n es z = some e := by
  unfold cleD at he ⊢
  split at he
  · rename_i c0
    obtain rfl := Option.some.inj he
    exact ⟨fun p hp => (by cases hp), fun h2 _ => by rw [if_pos c0]⟩
  · rename_i c0
    cases a with
    | none => cases he
    | some a =>
    simp only [Option.bind_some] at he
    obtain ⟨b, hb, he⟩ := Option.bind_eq_some_iff.1 he
    split at he
    · rename_i c1
      obtain rfl := Option.some.inj he
      refine ⟨fun p hp => (by simp at hp; subst hp; simp), fun h2 hh => ?_⟩
      simp only [if_neg c0, Option.bind_some, hh a.1 (by simp), hb, if_pos c1]
    · cases he

theorem clearA_loc (t : Nat) (x : AV) (id : Nat) : Loc (fun h => clearA T t x h some) id h := by
  intro e he
  simp only [clearA] at he ⊢
  split at he
  · rename_i a n cl ti et
    split at he
    · split at he
      · rename_i te ee
        split at he
        · cases he
        · rename_i cz
          obtain ⟨q, hq, he⟩ := Option.bind_eq_some_iff.1 he
          obtain rfl := Option.some.inj he
          have key := cleD_loc hq
          exact ⟨fun p hp => .inr (key.1 p hp), fun h2 hh => by rw [if_neg cz, key.2 h2 hh]; rfl⟩
      · cases he
    · cases he
  · cases he

theorem copyA_loc (t : Nat) (d x : AV) (id : Nat) : Loc (fun h => copyA T t d x h some) id h := by
  intro e he
  simp only [copyA] at he ⊢
  split at he
  · rename_i a n cl c k cl2 ti et
    split at he
    · split at he
      · rename_i te ee
        obtain ⟨q, hq, he⟩ := Option.bind_eq_some_iff.1 he
        obtain rfl := Option.some.inj he
        have key := copD_loc hq
        exact ⟨fun p hp => .inr (key.1 p hp), fun h2 hh => by rw [key.2 h2 hh]; rfl⟩
      · cases he
    · cases he
  · cases he

end Go.Proofs.YtahilinkfnchaaaDoor.T
