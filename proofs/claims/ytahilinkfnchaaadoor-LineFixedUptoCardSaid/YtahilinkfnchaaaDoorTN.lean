/- The abstract machine: ranges over strings; comparisons with nil of an interface. Nothing of a program. -/
import Derived.Test.YtahilinkfnchaaaDoorTM
import Derived.Lib.OthersKept
set_option linter.unusedVariables false
set_option linter.unusedSimpArgs false
namespace Go.Proofs.YtahilinkfnchaaaDoor.T
open Go Go.RowKit

variable {R : Type} {P : Program} {T : Types} {N : Nat} {m : PMap} {h : AHeap} {fr : Nat → Prop} {w : World}

def isIfaceD : TypeDesc → Bool
  | .interface _ => true
  | _ => false
def isNilC : Operand → Bool
  | .const .nilIface => true
  | _ => false
def asNil : AV → Option Bool
  | .nilIface => some true
  | .iface _ _ => some false
  | _ => none
noncomputable def binN (T : Types) (t : Nat) (op : BinOp) (yo : Operand) (x y : AV) (K : AV → Option R) : Option R :=
  if isNilC yo = true then (asNil x).bind fun b => if isIfaceD (descOf T t) = true then eqlA op b K else none else binA T t op x y K
theorem binN_sim (ht : TOk P T) {op : BinOp} {t : Nat} {x y : AV} {X Y : Value} {xo yo : Operand} {K : AV → Option R} {r : R} (hx : Rel m x X) (hy : Rel m y Y) (hn : isNilC yo = true → Y = .nilIface)
    (h : binN T t op yo x y K = some r) : ∃ v, K v = some r ∧ ∃ x', (do eqGuard op t xo yo X Y; binOp op t X Y : Sem Value).run P w = .ok x' w ∧ ∀ m', Rel m' v x' := by
  unfold binN at h
  split at h
  · rename_i c
    obtain rfl := hn c
    obtain ⟨b, hb, h⟩ := Option.bind_eq_some_iff.1 h
    split at h
    · rename_i ci
      obtain ⟨d, hu, hd⟩ := ht.desc ci rfl
      cases d <;> simp [isIfaceD] at hd
      have hg : ∀ op', (eqGuard op' t xo yo X .nilIface).run P w = .ok () w := by
        intro op'
        cases x <;> simp only [asNil] at hb <;> try (cases hb; done)
        · simp only [Rel] at hx
          obtain ⟨y, rfl, _⟩ := hx
          cases op' <;> rfl
        · simp only [Rel] at hx
          subst hx
          cases yo with
          | const v =>
            unfold eqGuard
            cases op' <;> simp
          | _ => simp [isNilC] at c
      have he : (Op.equal t X .nilIface).run P w = .ok b w := by
        cases x <;> simp only [asNil] at hb <;> try (cases hb; done)
        · obtain rfl := Option.some.inj hb
          simp only [Rel] at hx
          obtain ⟨y, rfl, _⟩ := hx
          exact equal_of fun d => by simp [Op.equalIn, run_underlying hu]
        · obtain rfl := Option.some.inj hb
          simp only [Rel] at hx
          subst hx
          exact equal_of fun d => by simp [Op.equalIn, run_underlying hu]
      have e2 : (binOp .eql t X .nilIface = do pure (.bool (← Op.equal t X .nilIface))) ∧ (binOp .neq t X .nilIface = do pure (.bool (!(← Op.equal t X .nilIface)))) := by
        cases x <;> simp only [asNil] at hb <;> try (cases hb; done)
        · simp only [Rel] at hx
          obtain ⟨y, rfl, _⟩ := hx
          exact ⟨rfl, rfl⟩
        · simp only [Rel] at hx
          subst hx
          exact ⟨rfl, rfl⟩
      obtain ⟨v, hv, x', hrun, hrel⟩ := eqlA_sim h he e2.1 e2.2
      refine ⟨v, hv, x', ?_, hrel⟩
      rw [Sem.run_bind, hg, Result.andThen_ok]
      exact hrun
    · cases h
  · exact binA_sim ht hx hy h

/-! ### a string's runes -/
def itD (h : AHeap) (r : Nat) : Option (ByteArray × Nat) := (h r).bind fun b => if (mapB b && b.own) = true then (match b.cells with | [.nilFn, .str s, .int .i64 p] => some (s, p.toNat) | _ => none) else none
theorem itD_ok (s : Sim N m h fr w) {r : Nat} {q : ByteArray × Nat} (e : itD h r = some q) : ∃ b p, h r = some b ∧ b.es = MB ∧ b.own = true ∧ m r = some p ∧ p.base = 0 ∧ w.heap[p.blk]? = some (.stringIter q.1 q.2) ∧ N ≤ p.blk := by
  unfold itD at e
  obtain ⟨b, hb, e⟩ := Option.bind_eq_some_iff.1 e
  split at e
  · rename_i c
    simp only [Bool.and_eq_true] at c
    have hes : b.es = MB := Nat.eq_of_beq_eq_true c.1
    obtain ⟨p, hp, k⟩ := s.blk r b hb
    obtain ⟨h0, o, h1, hk⟩ := k.map hes
    split at e
    · rename_i st n hc
      obtain rfl := Option.some.inj e
      refine ⟨b, p, hb, hes, c.2, hp, h0, ?_, (k.own c.2).1⟩
      rcases hk with ⟨en, ck, rfl, h2, _⟩ | ⟨st2, pos, hc2, rfl⟩
      · rw [hc] at h2
        simp only [EntRel] at h2
        obtain ⟨_, _, _, _, _, q, _⟩ := h2
        cases q
      · rw [hc] at hc2
        simp only [itC, List.cons.injEq, AV.str.injEq, AV.int.injEq, true_and, and_true] at hc2
        obtain ⟨rfl, rfl⟩ := hc2
        rw [h1]; simp
    · cases e
  · cases e
theorem itD_loc {h2 : AHeap} {r : Nat} (e : h2 r = h r) : itD h2 r = itD h r := by unfold itD; rw [e]
theorem itD_rd {r : Nat} {q : ByteArray × Nat} (e : itD h r = some q) : h r ≠ none := fun hn => by unfold itD at e; rw [hn] at e; cases e
def rangeA (T : Types) (t : Nat) (x : AV) (id : Nat) (K : Eff → Option R) : Option R :=
  match x with
  | .str s => (T t).bind fun ti => if isStrD ti.desc = true then K ⟨.ptr (some (id, 0)), [(id, some ⟨itC s 0, MB, true⟩)], []⟩ else none
  | _ => none
def nextA (x : AV) (b : Bool) (h : AHeap) (K : Eff → Option R) : Option R :=
  match x, b with
  | .ptr a, true => a.bind fun a => if Nat.beq a.2 0 = true then (itD h a.1).bind fun q =>
      if Nat.blt q.2 q.1.size = true then K ⟨.tuple [.bool true, .int .i64 (q.2 : Int), .int .i32 ((Utf8.decode q.1 q.2).1 : Int)], [(a.1, some ⟨itC q.1 (q.2 + (Utf8.decode q.1 q.2).2), MB, true⟩)], [a.1]⟩
      else K ⟨.tuple [.bool false], [], [a.1]⟩ else none
  | _, _ => none
theorem rangeA_bind (t : Nat) (x : AV) (id : Nat) (K : Eff → Option R) : rangeA T t x id K = (rangeA T t x id some).bind K := by
  unfold rangeA
  split
  · simp only [Option.bind_assoc]
    congr 1; funext ti
    split <;> rfl
  · rfl
theorem nextA_bind (x : AV) (b : Bool) (K : Eff → Option R) : nextA x b h K = (nextA x b h some).bind K := by
  unfold nextA
  split
  · simp only [Option.bind_assoc]
    congr 1; funext a
    split
    · simp only [Option.bind_assoc]
      congr 1; funext q
      split <;> rfl
    · rfl
  · rfl
theorem rangeA_sets {t : Nat} {x : AV} {id : Nat} {e : Eff} (he : rangeA T t x id some = some e) : ∀ p ∈ e.sets, p.1 = id := by
  unfold rangeA at he
  split at he
  · obtain ⟨ti, _, he⟩ := Option.bind_eq_some_iff.1 he
    split at he
    · obtain rfl := Option.some.inj he; intro p hp; simp at hp; subst hp; rfl
    · cases he
  · cases he
theorem nextA_some {x : AV} {b : Bool} {e : Eff} (he : nextA x b h some = some e) : ∃ a q, x = .ptr (some (a, 0)) ∧ b = true ∧ itD h a = some q ∧ e.reads = [a] ∧ (∀ p ∈ e.sets, p.1 = a) ∧ ∀ h2 : AHeap, h2 a = h a → nextA x b h2 some = some e := by
  unfold nextA at he
  split at he
  · rename_i a
    cases a with
    | none => cases he
    | some a =>
      obtain ⟨a1, a2⟩ := a
      simp only [Option.bind_some] at he
      split at he
      · rename_i c
        obtain rfl : a2 = 0 := Nat.eq_of_beq_eq_true c
        obtain ⟨q, hq, he⟩ := Option.bind_eq_some_iff.1 he
        refine ⟨a1, q, rfl, rfl, hq, ?_, ?_, fun h2 e2 => ?_⟩
        · split at he <;> (obtain rfl := Option.some.inj he; rfl)
        · split at he
          · obtain rfl := Option.some.inj he; intro p hp; simp at hp; subst hp; rfl
          · obtain rfl := Option.some.inj he; intro p hp; cases hp
        · unfold nextA
          simp only [Option.bind_some]
          rw [if_pos c, itD_loc e2, hq, Option.bind_some]
          exact he
      · cases he
  · cases he
theorem rangeA_sim (ht : TOk P T) (s : Sim N m h fr w) {id : Nat} (hid : fr id) {t : Nat} {x : AV} {X : Value} {K : Eff → Option R} {r : R} (hx : Rel m x X) (hh : rangeA T t x id K = some r) :
    ∃ e, K e = some r ∧ Does P N m h fr w id e (Instr.range t X) := by
  unfold rangeA at hh
  split at hh
  · rename_i st
    obtain ⟨ti, et, hh⟩ := Option.bind_eq_some_iff.1 hh
    split at hh
    · rename_i c
      simp only [Rel] at hx; subst hx
      obtain ⟨info, z, hu, _⟩ := ht.ok t ti et
      have hd : ti.desc = .string := by cases hd : ti.desc <;> rw [hd] at c <;> first | rfl | (simp [isStrD] at c)
      rw [hd] at hu
      obtain ⟨s', le⟩ := s.allocObj hid (cs := itC st 0) (o := .stringIter st 0) (.inr ⟨st, 0, rfl, rfl⟩)
      refine ⟨_, hh, .pointer (some ⟨w.heap.size, 0, none⟩), w.alloc (.stringIter st 0), _, ?_, ?_, s', le, (Below.refl N w).alloc s.base _⟩
      · unfold Instr.range
        simp [run_underlying hu, newObj, Sem.run]
      · simp only [Rel]; exact ⟨⟨w.heap.size, 0, 0, MB⟩, by simp [PMap.put], rfl⟩
    · cases hh
  · cases hh
theorem below_iter {a : World} (hb : Below N a w) {b : Nat} (hN : N ≤ b) {st : ByteArray} {pos pos' : Nat} (hr : w.heap[b]? = some (.stringIter st pos)) : Below N a (w.iterAt b st pos') :=
  hb.trans ⟨⟨rfl, rfl, rfl, by simp [World.iterAt], fun k hk => Lib.iterAt_other w b k st pos' (by omega)⟩, fun k q hq => ⟨q, (Lib.iterAt_other w b k st pos' (by intro e; subst e; rw [hr] at hq; cases hq)).trans hq, .refl q⟩, fun k d hd => (Lib.iterAt_other w b k st pos' (by intro e; subst e; rw [hr] at hd; cases hd)).trans hd⟩
theorem nextA_sim (s : Sim N m h fr w) (id : Nat) {ty : TypeId} {x : AV} {b : Bool} {X : Value} {K : Eff → Option R} {r : R} (hx : Rel m x X) (hh : nextA x b h K = some r) :
    ∃ e, K e = some r ∧ Does P N m h fr w id e (Instr.next X b ty) := by
  unfold nextA at hh
  split at hh
  · rename_i a
    cases a with
    | none => cases hh
    | some a =>
      obtain ⟨a1, a2⟩ := a
      simp only [Option.bind_some] at hh
      split at hh
      · rename_i c
        obtain rfl : a2 = 0 := Nat.eq_of_beq_eq_true c
        obtain ⟨q, hq, hh⟩ := Option.bind_eq_some_iff.1 hh
        obtain ⟨bk, p, hb, hes, hown, hp, h0, hit, hN⟩ := itD_ok s hq
        simp only [Rel] at hx
        obtain ⟨p', hp', rfl⟩ := hx
        rw [hp] at hp'; obtain rfl := Option.some.inj hp'
        rw [h0]
        split at hh
        · rename_i hl
          have hlt : q.2 < q.1.size := by simpa [Nat.blt_eq] using hl
          refine ⟨_, hh, _, w.iterAt p.blk q.1 (q.2 + (Utf8.decode q.1 q.2).2), m, Lib.run_next_any_at w p.blk q.1 q.2 ty hit hlt, ?_, ?_, PMap.le_refl m, below_iter (Below.refl N w) hN hit⟩
          · simp only [Rel, RelL]
            exact ⟨_, rfl, _, _, rfl, rfl, _, _, rfl, rfl, _, _, rfl, rfl, rfl⟩
          · exact (s.setObj hb hes hown hp (cs := itC q.1 (q.2 + (Utf8.decode q.1 q.2).2)) (o := .stringIter q.1 (q.2 + (Utf8.decode q.1 q.2).2)) (.inr ⟨_, _, rfl, rfl⟩)).mono fun _ hj => hj.1
        · rename_i hl
          have hlt : ¬ q.2 < q.1.size := by simpa [Nat.blt_eq] using hl
          refine ⟨_, hh, _, w, m, Lib.run_next_end_at w p.blk q.1 q.2 ty hit hlt, ?_, s.mono fun _ hj => hj.1, PMap.le_refl m, Below.refl N w⟩
          simp only [Rel, RelL]
          exact ⟨_, rfl, _, _, rfl, rfl, rfl⟩
      · cases hh
  · cases hh
end Go.Proofs.YtahilinkfnchaaaDoor.T
