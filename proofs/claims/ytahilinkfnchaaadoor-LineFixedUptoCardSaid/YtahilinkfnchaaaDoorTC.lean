/- Regions that draw their order: one run in the order of the text, and a check that what is not ordered does not meet, serves every order. Nothing of a program. -/
import Derived.Test.YtahilinkfnchaaaDoorTB
set_option linter.unusedVariables false
set_option linter.unusedSimpArgs false
namespace Go.Proofs.YtahilinkfnchaaaDoor.T
open Go Go.RowKit
open Glo (N)

variable {R : Type} {T : Types} {h : AHeap}

theorem boxA_sets {es : Nat} {cs : List AV} {id : Nat} {e : Eff} (he : boxA es cs id some = some e) : ∀ p ∈ e.sets, p.1 = id := by
  unfold boxA at he
  split at he
  · obtain rfl := Option.some.inj he; intro p hp; simp at hp; subst hp; rfl
  · cases he

theorem newSets {f : AHeap → Option Eff} {id : Nat} (hc : ∀ h1 h2, f h1 = f h2) (hs : ∀ e, f h = some e → ∀ p ∈ e.sets, p.1 = id) : Loc f id h :=
  fun e he => ⟨fun p hp => .inl (hs e he p hp), fun h2 _ => (hc h2 h).trans he⟩
theorem noSets {f : AHeap → Option Eff} {id : Nat} (hc : ∀ h1 h2, f h1 = f h2) (hs : ∀ e, f h = some e → e.sets = []) : Loc f id h := newSets hc fun e he p hp => by rw [hs e he] at hp; cases hp

theorem partA_sets {t off : Nat} {cs : List AV} {e : Eff} (he : partA T t cs off some = some e) : e.sets = [] := by
  unfold partA at he
  split at he
  · split at he
    · obtain rfl := Option.some.inj he; rfl
    · cases hc : cs[off]? with
      | none => rw [hc] at he; cases he
      | some c => rw [hc] at he; obtain rfl := Option.some.inj he; rfl
  · cases he

theorem opK_loc (fr : Fr) (op : Op) (id : Nat) : Loc (fun h => opK T fr op id h some) id h := by
  cases op with
  | move x => exact noSets (fun _ _ => rfl) fun e he => by obtain rfl := Option.some.inj he; rfl
  | assign x => exact noSets (fun _ _ => rfl) fun e he => by obtain rfl := Option.some.inj he; rfl
  | pick c a b =>
    exact noSets (fun _ _ => rfl) fun e he => by
      simp only [opK] at he
      split at he
      · obtain rfl := Option.some.inj he; rfl
      · cases he
  | load t a => exact loadA_loc _ _ _
  | store t a v => exact storeA_loc _ _ _ _
  | alloc t =>
    exact newSets (fun _ _ => rfl) fun e he => by
      simp only [opK, allocA] at he
      split at he
      · exact boxA_sets he
      · cases he
  | box t v => exact Loc.const fun e he => boxA_sets (es := esOf T t) (cs := (evalA fr v).cells) he
  | build t ps =>
    exact noSets (fun _ _ => rfl) fun e he => by
      simp only [opK, buildA] at he
      split at he
      · split at he
        · split at he
          · generalize fillA _ _ _ = q at he
            cases q with
            | none => cases he
            | some q => obtain rfl := Option.some.inj he; rfl
          · cases he
        · split at he
          · generalize fillA _ _ _ = q at he
            cases q with
            | none => cases he
            | some q => obtain rfl := Option.some.inj he; rfl
          · cases he
        · cases he
      · cases he
  | buildSlice t n ps =>
    exact newSets (fun _ _ => rfl) fun e he => by
      simp only [opK, buildSliceA] at he
      split at he
      · split at he
        · split at he
          · split at he
            · generalize fillA _ _ _ = q at he
              cases q with
              | none => cases he
              | some q =>
                simp only [Option.bind_some] at he
                split at he
                · obtain rfl := Option.some.inj he; intro p hp; simp at hp; subst hp; rfl
                · cases he
            · cases he
          · cases he
        · cases he
      · cases he
  | fieldAddr t x f =>
    exact noSets (fun _ _ => rfl) fun e he => by
      simp only [opK, fieldAddrA] at he
      repeat' (first | (cases he; done) | (obtain rfl := Option.some.inj he; rfl) | (obtain ⟨_, _, he⟩ := Option.bind_eq_some_iff.1 he; obtain rfl := Option.some.inj he; rfl) | split at he)
  | field t x f =>
    exact noSets (fun _ _ => rfl) fun e he => by
      simp only [opK, fieldA] at he
      repeat' (first | (cases he; done) | (exact partA_sets he) | split at he)
  | indexAddr t x i =>
    exact noSets (fun _ _ => rfl) fun e he => by
      simp only [opK, indexAddrA] at he
      repeat' (first | (cases he; done) | (obtain rfl := Option.some.inj he; rfl) | (obtain ⟨_, _, he⟩ := Option.bind_eq_some_iff.1 he; split at he; · (obtain rfl := Option.some.inj he; rfl)) | split at he)
  | index t x i =>
    exact noSets (fun _ _ => rfl) fun e he => by
      simp only [opK, indexA] at he
      split at he
      · repeat' (first | (cases he; done) | (exact partA_sets he) | split at he)
      · rename_i sx k i ti _ _ _
        split at he
        · split at he
          · cases hq : sx.data.toList[i.toNat]? with
            | none => rw [hq] at he; cases he
            | some q => rw [hq] at he; obtain rfl := Option.some.inj he; rfl
          · cases he
        · cases he
      · cases he
  | slice t x lo hi mx => exact sliceA_loc _ _ _ _ _ _
  | makeSlice t l c =>
    exact newSets (fun _ _ => rfl) fun e he => by
      simp only [opK, makeA] at he
      repeat' (first | (cases he; done) | (obtain rfl := Option.some.inj he; intro p hp; simp at hp; subst hp; rfl) | split at he)
  | binOp op t x y yt =>
    exact noSets (fun _ _ => rfl) fun e he => by
      rw [show opK T fr (.binOp op t x y yt) id h some = binN T t op y (evalA fr x) (evalA fr y) (fun v => some ⟨v, [], []⟩) from rfl, binN_bind] at he
      generalize binN _ _ _ _ _ _ _ = q at he
      cases q with
      | none => cases he
      | some q => obtain rfl := Option.some.inj he; rfl
  | unOp op t x =>
    exact noSets (fun _ _ => rfl) fun e he => by
      rw [show opK T fr (.unOp op t x) id h some = unA op (evalA fr x) (fun v => some ⟨v, [], []⟩) from rfl, unA_bind] at he
      generalize unA _ _ _ = q at he
      cases q with
      | none => cases he
      | some q => obtain rfl := Option.some.inj he; rfl
  | convert s d x =>
    exact newSets (fun _ _ => rfl) fun e he => by
      exact convertA_sets he
  | extract t i =>
    exact noSets (fun _ _ => rfl) fun e he => by
      simp only [opK, extractA] at he
      split at he
      · rename_i vs _
        cases hq : vs[i]? with
        | none => rw [hq] at he; cases he
        | some q => rw [hq] at he; obtain rfl := Option.some.inj he; rfl
      · cases he
  | lookup t x k ok => exact lookupA_loc _ _ _ _ _
  | mapUpdate t x k v => exact mapUpdA_loc _ _ _ _ _
  | makeMap t r =>
    exact newSets (fun _ _ => rfl) fun e he => by
      simp only [opK, makeMapA] at he
      obtain ⟨te, _, he⟩ := Option.bind_eq_some_iff.1 he
      repeat' (first | (cases he; done) | (obtain rfl := Option.some.inj he; intro p hp; simp at hp; subst hp; rfl) | split at he)
  | makeInterface t x =>
    exact noSets (fun _ _ => rfl) fun e he => by
      simp only [opK] at he
      obtain ⟨ti, et, he⟩ := Option.bind_eq_some_iff.1 he
      split at he
      · cases he
      · obtain rfl := Option.some.inj he; rfl
  | makeFunc fn first caps =>
    exact noSets (fun _ _ => rfl) fun e he => by
      simp only [opK] at he
      split at he
      · obtain rfl := Option.some.inj he; rfl
      · cases he
  | range t x => exact newSets (fun _ _ => rfl) fun e he => rangeA_sets he
  | next x b => exact nextA_loc _ _ _
  | nilCheck x =>
    exact noSets (fun _ _ => rfl) fun e he => by
      simp only [opK] at he
      repeat' (first | (cases he; done) | (obtain rfl := Option.some.inj he; rfl) | (obtain ⟨_, _, he⟩ := Option.bind_eq_some_iff.1 he; obtain rfl := Option.some.inj he; rfl) | split at he)
  | call cc =>
    obtain ⟨callee, args, ts⟩ := cc
    cases callee with
    | value f => exact noSets (fun _ _ => rfl) fun e he => by simp [opK] at he
    | invoke r mt => exact noSets (fun _ _ => rfl) fun e he => by simp [opK] at he
    | builtin b =>
      simp only [opK, builtinK]
      split
      · exact lenM_loc _ _ _
      · exact delA_loc _ _ _ _
      · exact appendA_loc _ _ _ _ _
      · exact copyA_loc _ _ _ _
      · exact clearA_loc _ _ _
      · exact noSets (fun _ _ => rfl) fun e he => by
          generalize mostA _ _ _ = q at he
          cases q with
          | none => cases he
          | some q => obtain rfl := Option.some.inj he; rfl
      · exact noSets (fun _ _ => rfl) fun e he => by
          generalize mostA _ _ _ = q at he
          cases q with
          | none => cases he
          | some q => obtain rfl := Option.some.inj he; rfl
      · exact noSets (fun _ _ => rfl) fun e he => by cases he
  | _ => exact noSets (fun _ _ => rfl) fun e he => by simp [opK] at he

/-! ### an operation looks at its operands alone -/
theorem opK_cong {fr fr2 : Fr} {op : Op} (hx : ∀ x ∈ op.operands.toList, evalA fr x = evalA fr2 x) (id : Nat) (K : Eff → Option R) : opK T fr op id h K = opK T fr2 op id h K := by
  have mp : ∀ xs : List Operand, (∀ x ∈ xs, evalA fr x = evalA fr2 x) → xs.map (evalA fr) = xs.map (evalA fr2) := fun xs hxs => List.map_congr_left hxs
  have mpp : ∀ xs : List (Nat × Operand), (∀ x ∈ xs, evalA fr x.2 = evalA fr2 x.2) → (xs.map fun p => (p.1, evalA fr p.2)) = xs.map fun p => (p.1, evalA fr2 p.2) := fun xs hxs => List.map_congr_left fun p hp => by rw [hxs p hp]
  have mo : ∀ x : Option Operand, (∀ y ∈ x.toList, evalA fr y = evalA fr2 y) → x.map (evalA fr) = x.map (evalA fr2) := by
    intro x hy
    cases x with
    | none => rfl
    | some y => simp [hy y (by simp)]
  cases op with
  | pick c a b => simp only [opK]; rw [hx c (by simp [Op.operands]), hx a (by simp [Op.operands]), hx b (by simp [Op.operands])]
  | move x => simp only [opK]; rw [hx x (by simp [Op.operands])]
  | assign x => simp only [opK]; rw [hx x (by simp [Op.operands])]
  | load t a => simp only [opK]; rw [hx a (by simp [Op.operands])]
  | store t a v => simp only [opK]; rw [hx a (by simp [Op.operands]), hx v (by simp [Op.operands])]
  | alloc t => rfl
  | box t v => simp only [opK]; rw [hx v (by simp [Op.operands])]
  | build t ps => simp only [opK]; rw [mpp ps.toList fun p hp => hx p.2 (by simp only [Op.operands]; simp; exact ⟨p.1, by simpa using hp⟩)]
  | buildSlice t n ps => simp only [opK]; rw [mpp ps.toList fun p hp => hx p.2 (by simp only [Op.operands]; simp; exact ⟨p.1, by simpa using hp⟩)]
  | fieldAddr t x f => simp only [opK]; rw [hx x (by simp [Op.operands])]
  | field t x f => simp only [opK]; rw [hx x (by simp [Op.operands])]
  | indexAddr t x i => simp only [opK]; rw [hx x (by simp [Op.operands]), hx i (by simp [Op.operands])]
  | index t x i => simp only [opK]; rw [hx x (by simp [Op.operands]), hx i (by simp [Op.operands])]
  | slice t x lo hi mx =>
    simp only [opK]
    rw [hx x (by simp [Op.operands]), mo lo fun y hy => hx y (by simp [Op.operands] at hy ⊢; simp [hy]), mo hi fun y hy => hx y (by simp [Op.operands] at hy ⊢; simp [hy]), mo mx fun y hy => hx y (by simp [Op.operands] at hy ⊢; simp [hy])]
  | makeSlice t l c => simp only [opK]; rw [hx l (by simp [Op.operands]), hx c (by simp [Op.operands])]
  | binOp op t x y yt => simp only [opK]; rw [hx x (by simp [Op.operands]), hx y (by simp [Op.operands])]
  | unOp op t x => simp only [opK]; rw [hx x (by simp [Op.operands])]
  | convert s d x => simp only [opK]; rw [hx x (by simp [Op.operands])]
  | extract t i => simp only [opK]; rw [hx t (by simp [Op.operands])]
  | lookup t x k ok => simp only [opK]; rw [hx x (by simp [Op.operands]), hx k (by simp [Op.operands])]
  | mapUpdate t x k v => simp only [opK]; rw [hx x (by simp [Op.operands]), hx k (by simp [Op.operands]), hx v (by simp [Op.operands])]
  | makeMap t r => simp only [opK]; rw [mo r fun y hy => hx y (by simp [Op.operands] at hy ⊢; simp [hy])]
  | makeInterface t x => simp only [opK]; rw [hx x (by simp [Op.operands])]
  | makeFunc fn first caps =>
    simp only [opK]
    rw [mp first.toList fun x hx' => hx x (by simp [Op.operands] at hx' ⊢; exact .inl hx'), mp caps.toList fun x hx' => hx x (by simp [Op.operands] at hx' ⊢; exact .inr hx')]
  | range t x => simp only [opK]; rw [hx x (by simp [Op.operands])]
  | next x b => simp only [opK]; rw [hx x (by simp [Op.operands])]
  | nilCheck x => simp only [opK]; rw [hx x (by simp [Op.operands])]
  | call cc =>
    obtain ⟨callee, args, ts⟩ := cc
    cases callee with
    | value f => rfl
    | invoke r mt => rfl
    | builtin b => simp only [opK]; rw [mp args.toList fun x hx' => hx x (by simp [Op.operands, Call.operands] at hx' ⊢; exact hx')]
  | _ => rfl

end Go.Proofs.YtahilinkfnchaaaDoor.T
