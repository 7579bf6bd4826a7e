/- The abstract machine's operations, each with what the model does. Nothing of a program. -/
import Derived.Test.YtahilinkfnchaaaDoorTQ
import Derived.Laws.BitsLemmas
set_option linter.unusedVariables false
set_option linter.unusedSimpArgs false
namespace Go.Proofs.YtahilinkfnchaaaDoor.T
open Go Go.RowKit

structure TI where
  desc : TypeDesc
  size : Nat
  bytes : Nat
  zero : AV
  eqk : Option (List EK)
  mth : String → Option Nat

abbrev Types := Nat → Option TI

/-- Structs of plain cells: '==' is that of the cells, in a row. -/
def EqFits (P : Program) (t : TypeId) (ks : List EK) : Prop :=
  P.eqGuardType P.depth t = false ∧ (∃ fs, P.underlying t = some (.struct fs)) ∧ ∃ n, n ≤ 10000 ∧ kindsE P n t = some ks

structure TOk (P : Program) (T : Types) : Prop where
  ok : ∀ t i, T t = some i → ∃ info z, P.underlying t = some i.desc ∧ P.info? t = some info ∧ info.size = i.size ∧ info.bytes = i.bytes ∧ info.zero = some z ∧ (∀ m, Rel m i.zero z) ∧ i.zero.cells.length = i.size ∧ allOne i.zero.cells = true
  eqk : ∀ t i ks, T t = some i → i.eqk = some ks → EqFits P t ks
  small : ∀ t i, T t = some i → i.size < MB
  mth : ∀ t i nm f, T t = some i → i.mth nm = some f → ∀ (n : Nat) (v : Value) (w : World), (method (n + 1) t v nm).run P w = .ok (f, v) w

def wrapA0 : IntKind → Int → Int
  | .i64, n => wrap64 n
  | .i32, n => wrap32 n
  | .u8, n => n % 256
  | .u32, n => n % 4294967296
  | .u64, n => n % 18446744073709551616
  | k, n => k.wrap n
/-- Held shut: the kernel must not compute it. -/
noncomputable def wrapA (k : IntKind) (n : Int) : Int := Classical.choose (⟨wrapA0 k n, rfl⟩ : ∃ m, m = wrapA0 k n)
theorem wrapA_def (k : IntKind) (n : Int) : wrapA k n = wrapA0 k n := Classical.choose_spec (⟨wrapA0 k n, rfl⟩ : ∃ m, m = wrapA0 k n)
theorem wrapA_eq (k : IntKind) (n : Int) : wrapA k n = k.wrap n := by
  rw [wrapA_def]
  cases k with
  | i64 => rw [IntKind.wrap_i64]; rfl
  | i32 => rw [IntKind.wrap_i32]; rfl
  | u8 => rw [IntKind.wrap_u8]; rfl
  | u32 => rw [IntKind.wrap_u32]; rfl
  | u64 => simp [wrapA0, IntKind.wrap, IntKind.bits, IntKind.signed]
  | _ => rfl

/-- What an operation yields: a value, blocks that are new, written or gone, blocks that were read. -/
structure Eff where
  v : AV
  sets : List (Nat × Option ABlk)
  reads : List Nat

def AHeap.puts (h : AHeap) : List (Nat × Option ABlk) → AHeap
  | [] => h
  | (i, b) :: r => (h.put i b).puts r

variable {R : Type}

/-! ### numbers -/
noncomputable def intA (op : BinOp) (k : IntKind) (a b : Int) (K : AV → Option R) : Option R :=
  match op with
  | .add => K (.int k (wrapA k (a + b)))
  | .sub => K (.int k (wrapA k (a - b)))
  | .mul => K (.int k (wrapA k (a * b)))
  | .quo => if b = 0 then none else K (.int k (wrapA k (a.tdiv b)))
  | .rem => if b = 0 then none else K (.int k (a.tmod b))
  | .and => K (.int k (bits .and k a b))
  | .or => K (.int k (bits .or k a b))
  | .xor => K (.int k (bits .xor k a b))
  | .andNot => K (.int k (bits .andNot k a b))
  | .eql => K (.bool (a == b))
  | .neq => K (.bool (a != b))
  | .lss => K (.bool (decide (a < b)))
  | .leq => K (.bool (decide (a ≤ b)))
  | .gtr => K (.bool (decide (a > b)))
  | .geq => K (.bool (decide (a ≥ b)))
  | _ => none

noncomputable def shiftA (op : BinOp) (k : IntKind) (a b : Int) (K : AV → Option R) : Option R :=
  if b < 0 then none else
  match op with
  | .shl => K (.int k (wrapA k (a * 2 ^ min b.toNat k.bits)))
  | .shr => K (.int k (a.fdiv (2 ^ min b.toNat k.bits)))
  | _ => none

def strA (op : BinOp) (a b : ByteArray) (K : AV → Option R) : Option R :=
  match op with
  | .add => if ((a.size + b.size : Nat) : Int) > 9223372036854775807 then none else K (.str (a ++ b))
  | .eql => K (.bool (a.toList == b.toList))
  | .neq => K (.bool (!(a.toList == b.toList)))
  | .lss => K (.bool (Op.bytesLess a.toList b.toList))
  | .leq => K (.bool (Op.bytesLess a.toList b.toList || a.toList == b.toList))
  | .gtr => K (.bool (!(Op.bytesLess a.toList b.toList || a.toList == b.toList)))
  | .geq => K (.bool (!Op.bytesLess a.toList b.toList))
  | _ => none

def isShift : BinOp → Bool
  | .shl | .shr => true
  | _ => false

def isBoolD : TypeDesc → Bool | .bool => true | _ => false
def isSliceD : TypeDesc → Bool | .slice _ => true | _ => false
def isPtrD : TypeDesc → Bool | .pointer _ => true | _ => false
def descOf (T : Types) (t : Nat) : TypeDesc := match T t with | some i => i.desc | none => .invalid
def sizeOfA (T : Types) (t : Nat) : Option Nat := match T t with | some i => some i.size | none => none

def eqlA (op : BinOp) (b : Bool) (K : AV → Option R) : Option R :=
  match op with | .eql => K (.bool b) | .neq => K (.bool (!b)) | _ => none

noncomputable def binA (T : Types) (t : Nat) (op : BinOp) (x y : AV) (K : AV → Option R) : Option R :=
  match x, y with
  | .int k a, .int k' b => if isShift op = true then shiftA op k a b K else if k = k' then intA op k a b K else none
  | .bool a, .bool b => if isBoolD (descOf T t) = true then eqlA op (a == b) K else none
  | .str a, .str b => strA op a b K
  | .slice a _ _, .slice none _ _ => if isSliceD (descOf T t) = true then eqlA op a.isNone K else none
  | .ptr a, .ptr none => if isPtrD (descOf T t) = true then eqlA op a.isNone K else none
  | .agg xs, .agg ys => (match T t with
    | some ti => (match ti.eqk with
      | some ks => if (fitsA ks xs && fitsA ks ys) = true then eqlA op (eqCells xs ys) K else none
      | none => none)
    | none => none)
  | _, _ => none

noncomputable def unA (op : UnOp) (x : AV) (K : AV → Option R) : Option R :=
  match op, x with
  | .neg, .int k n => K (.int k (wrapA k (0 - n)))
  | .xor, .int k n => K (.int k (bits .xor k (if k.signed = true then -1 else k.max) n))
  | .not, .bool b => K (.bool (!b))
  | _, _ => none

theorem intA_sim {P : Program} {w : World} {op : BinOp} {k : IntKind} {a b : Int} {K : AV → Option R} {r : R} (t : TypeId) (hs : isShift op = false) (h : intA op k a b K = some r) :
    ∃ v, K v = some r ∧ ∃ x, (binOp op t (.int k a) (.int k b)).run P w = .ok x w ∧ ∀ m, Rel m v x := by
  cases op <;> simp only [intA] at h <;> try (cases h; done)
  case add => exact ⟨_, h, .int k (wrapA k (a + b)), by rw [binOp_add, wrapA_eq]; rfl, fun m => by simp only [Rel]⟩
  case sub => exact ⟨_, h, .int k (wrapA k (a - b)), by rw [binOp_sub, wrapA_eq]; rfl, fun m => by simp only [Rel]⟩
  case mul => exact ⟨_, h, .int k (wrapA k (a * b)), by rw [binOp_mul, wrapA_eq]; rfl, fun m => by simp only [Rel]⟩
  case and => exact ⟨_, h, .int k (bits .and k a b), by rw [binOp_and]; rfl, fun m => by simp only [Rel]⟩
  case or => exact ⟨_, h, .int k (bits .or k a b), by rw [binOp_or]; rfl, fun m => by simp only [Rel]⟩
  case xor => exact ⟨_, h, .int k (bits .xor k a b), by rw [binOp_xor]; rfl, fun m => by simp only [Rel]⟩
  case andNot => exact ⟨_, h, .int k (bits .andNot k a b), by rw [binOp_andNot]; rfl, fun m => by simp only [Rel]⟩
  case eql => exact ⟨_, h, _, by rw [binOp_eql]; rfl, fun m => by simp only [Rel]⟩
  case neq => exact ⟨_, h, _, by rw [binOp_neq]; rfl, fun m => by simp only [Rel]⟩
  case lss => exact ⟨_, h, _, by rw [binOp_lss]; rfl, fun m => by simp only [Rel]⟩
  case leq => exact ⟨_, h, _, by rw [binOp_leq]; rfl, fun m => by simp only [Rel]⟩
  case gtr => exact ⟨_, h, _, by rw [binOp_gtr]; rfl, fun m => by simp only [Rel]⟩
  case geq => exact ⟨_, h, _, by rw [binOp_geq]; rfl, fun m => by simp only [Rel]⟩
  case quo =>
    by_cases c : b = 0
    · rw [if_pos c] at h; cases h
    · rw [if_neg c] at h
      exact ⟨_, h, .int k (wrapA k (a.tdiv b)), by rw [binOp_quo, wrapA_eq]; simp only [Op.intDiv, if_neg c]; rfl, fun m => by simp only [Rel]⟩
  case rem =>
    by_cases c : b = 0
    · rw [if_pos c] at h; cases h
    · rw [if_neg c] at h
      exact ⟨_, h, _, by rw [binOp_rem]; simp only [Op.intDiv, if_neg c]; rfl, fun m => by simp only [Rel]⟩

theorem shiftA_sim {P : Program} {w : World} {op : BinOp} {k k' : IntKind} {a b : Int} {K : AV → Option R} {r : R} (t : TypeId) (hs : isShift op = true) (h : shiftA op k a b K = some r) :
    ∃ v, K v = some r ∧ ∃ x, (binOp op t (.int k a) (.int k' b)).run P w = .ok x w ∧ ∀ m, Rel m v x := by
  unfold shiftA at h
  by_cases c : b < 0
  · rw [if_pos c] at h; cases h
  · rw [if_neg c] at h
    cases op <;> simp only [isShift, Bool.false_eq_true] at hs
    · exact ⟨_, h, _, by simp [binOp, Op.shift, c, ← wrapA_eq]; rfl, fun m => by simp [Rel]⟩
    · exact ⟨_, h, _, by simp [binOp, Op.shift, c]; rfl, fun m => by simp [Rel]⟩

theorem strA_sim {P : Program} {w : World} {op : BinOp} {a b : ByteArray} {K : AV → Option R} {r : R} (t : TypeId) (h : strA op a b K = some r) :
    ∃ v, K v = some r ∧ ∃ x, (binOp op t (.string a) (.string b)).run P w = .ok x w ∧ ∀ m, Rel m v x := by
  cases op <;> simp only [strA] at h <;> try (cases h; done)
  all_goals first
    | (refine ⟨_, h, _, by simp [binOp, Op.stringOp]; rfl, fun m => by simp [Rel]⟩; done)
    | skip
  by_cases c : ((a.size + b.size : Nat) : Int) > 9223372036854775807
  · rw [if_pos c] at h; cases h
  · rw [if_neg c] at h
    have c' : ¬ ((a.size : Int) + (b.size : Int) > 9223372036854775807) := by omega
    exact ⟨_, h, .string (a ++ b), by simp only [binOp, Op.stringOp]; rw [if_neg (by simpa [IntKind.max, IntKind.signed, IntKind.bits] using c)]; rfl, fun m => by simp only [Rel]⟩


theorem TOk.desc {P : Program} {T : Types} (ht : TOk P T) {t : Nat} {f : TypeDesc → Bool} (h : f (descOf T t) = true) (h0 : f .invalid = false) : ∃ d, P.underlying t = some d ∧ f d = true := by
  unfold descOf at h
  cases e : T t with
  | none => rw [e] at h; rw [h0] at h; cases h
  | some i => rw [e] at h; obtain ⟨info, z, hu, _⟩ := ht.ok t i e; exact ⟨_, hu, h⟩

theorem equal_of {P : Program} {w : World} {t : Nat} {x y : Value} {b : Bool} (h : ∀ d, (Op.equalIn (d + 1) t x y).run P w = .ok b w) : (Op.equal t x y).run P w = .ok b w := h 9999

theorem eqlA_sim {P : Program} {w : World} {op : BinOp} {t : Nat} {x y : Value} {b : Bool} {K : AV → Option R} {r : R} (h : eqlA op b K = some r) (he : (Op.equal t x y).run P w = .ok b w)
    (h1 : binOp .eql t x y = do pure (.bool (← Op.equal t x y))) (h2 : binOp .neq t x y = do pure (.bool (!(← Op.equal t x y)))) :
    ∃ v, K v = some r ∧ ∃ x', (binOp op t x y).run P w = .ok x' w ∧ ∀ m, Rel m v x' := by
  cases op <;> simp only [eqlA] at h <;> try (cases h; done)
  · exact ⟨_, h, .bool b, by rw [h1, Sem.run_bind, he]; rfl, fun m => by simp only [Rel]⟩
  · exact ⟨_, h, .bool (!b), by rw [h2, Sem.run_bind, he]; rfl, fun m => by simp only [Rel]⟩

theorem run_eqGuard_agg {P : Program} {w : World} {op : BinOp} {t : TypeId} {xo yo : Operand} {xs ys : Array Value} (h : P.eqGuardType P.depth t = false) : (eqGuard op t xo yo (.agg xs) (.agg ys)).run P w = .ok () w := by
  unfold eqGuard
  cases op <;> simp [h]

theorem binA_sim {P : Program} {w : World} {T : Types} (ht : TOk P T) {m : PMap} {op : BinOp} {t : Nat} {x y : AV} {X Y : Value} {xo yo : Operand} {K : AV → Option R} {r : R} (hx : Rel m x X) (hy : Rel m y Y)
    (h : binA T t op x y K = some r) : ∃ v, K v = some r ∧ ∃ x', (do eqGuard op t xo yo X Y; binOp op t X Y : Sem Value).run P w = .ok x' w ∧ ∀ m', Rel m' v x' := by
  unfold binA at h
  split at h
  · rename_i k a k' b
    simp only [Rel] at hx hy; subst hx; subst hy
    rw [eqGuard_at_int]
    by_cases hs : isShift op = true
    · rw [if_pos hs] at h; exact shiftA_sim t hs h
    · rw [if_neg hs] at h
      by_cases hk : k = k'
      · rw [if_pos hk] at h; subst hk; exact intA_sim t (by simpa using hs) h
      · rw [if_neg hk] at h; cases h
  · rename_i a b
    simp only [Rel] at hx hy; subst hx; subst hy
    rw [eqGuard_at_bool]
    by_cases c : isBoolD (descOf T t) = true
    · rw [if_pos c] at h
      obtain ⟨d, hu, hd⟩ := ht.desc c rfl
      have hd' : d = .bool := by cases d <;> simp_all [isBoolD]
      subst hd'
      exact eqlA_sim h (equal_of fun d => by simp [Op.equalIn, run_underlying hu]) rfl rfl
    · rw [if_neg c] at h; cases h
  · rename_i a b
    simp only [Rel] at hx hy; subst hx; subst hy
    rw [eqGuard_at_string]
    exact strA_sim t h
  · rename_i a n c n' c'
    simp only [Rel] at hy
    obtain ⟨rfl, rfl⟩ := hy
    by_cases c : isSliceD (descOf T t) = true
    · rw [if_pos c] at h
      obtain ⟨d, hu, hd⟩ := ht.desc c rfl
      cases d <;> simp [isSliceD] at hd
      rename_i e
      cases a with
      | none =>
        simp only [Rel] at hx; obtain ⟨rfl, rfl⟩ := hx
        rw [eqGuard_at_slice]
        exact eqlA_sim h (equal_of fun d => by simp [Op.equalIn, run_underlying hu]) rfl rfl
      | some a =>
        simp only [Rel] at hx; obtain ⟨p, A, cc, _, rfl, _⟩ := hx
        rw [eqGuard_at_slice]
        exact eqlA_sim h (equal_of fun d => by simp [Op.equalIn, run_underlying hu]) rfl rfl
    · rw [if_neg c] at h; cases h
  · rename_i a
    simp only [Rel] at hy
    subst hy
    by_cases c : isPtrD (descOf T t) = true
    · rw [if_pos c] at h
      obtain ⟨d, hu, hd⟩ := ht.desc c rfl
      cases d <;> simp [isPtrD] at hd
      rename_i e
      cases a with
      | none =>
        simp only [Rel] at hx; subst hx
        rw [eqGuard_at_pointer]
        exact eqlA_sim h (equal_of fun d => by simp [Op.equalIn, run_underlying hu]) rfl rfl
      | some a =>
        simp only [Rel] at hx; obtain ⟨p, _, rfl⟩ := hx
        rw [eqGuard_at_pointer]
        exact eqlA_sim h (equal_of fun d => by simp [Op.equalIn, run_underlying hu]) rfl rfl
    · rw [if_neg c] at h; cases h
  · rename_i as bs
    split at h
    · rename_i ti et
      split at h
      · rename_i ks ek
        split at h
        · rename_i c
          simp only [Bool.and_eq_true] at c
          obtain ⟨g1, ⟨fs, g2⟩, n, g3, g4⟩ := ht.eqk t ti ks et ek
          simp only [Rel] at hx hy
          obtain ⟨xs, rfl, rx⟩ := hx
          obtain ⟨ys, rfl, ry⟩ := hy
          obtain ⟨r', hr', hi⟩ := eqE n g4 (10000 - n) w xs ys (.agg ⟨xs⟩) (.agg ⟨ys⟩) (relL_fits rx c.1) (relL_fits ry c.2) (by simp [IsV, g2]) (by simp [IsV, g2])
          have hb : r' = eqCells as bs := by
            have := eqCells_iff rx ry c.1 c.2
            cases r' <;> cases he : eqCells as bs <;> simp_all
          rw [show 10000 - n + n = 10000 by omega] at hr'
          have he : (Op.equal t (.agg ⟨xs⟩) (.agg ⟨ys⟩)).run P w = .ok (eqCells as bs) w := by rw [← hb]; exact hr'
          obtain ⟨v, hv, x', hrun, hrel⟩ := eqlA_sim h he rfl rfl
          refine ⟨v, hv, x', ?_, hrel⟩
          rw [Sem.run_bind, run_eqGuard_agg g1, Result.andThen_ok]
          exact hrun
        · cases h
      · cases h
    · cases h
  · cases h

theorem unA_sim {P : Program} {w : World} {m : PMap} {op : UnOp} {x : AV} {X : Value} {K : AV → Option R} {r : R} (hx : Rel m x X) (h : unA op x K = some r) :
    ∃ v, K v = some r ∧ ∃ x', (Op.unary op X).run P w = .ok x' w ∧ ∀ m', Rel m' v x' := by
  unfold unA at h
  split at h
  · rename_i k n
    simp only [Rel] at hx; subst hx
    exact ⟨_, h, .int k (wrapA k (0 - n)), by rw [wrapA_eq]; rfl, fun m => by simp only [Rel]⟩
  · rename_i k n
    simp only [Rel] at hx; subst hx
    exact ⟨_, h, .int k (bits .xor k (if k.signed = true then -1 else k.max) n), rfl, fun m => by simp only [Rel]⟩
  · rename_i b
    simp only [Rel] at hx; subst hx
    exact ⟨_, h, .bool (!b), rfl, fun m => by simp only [Rel]⟩
  · cases h

end Go.Proofs.YtahilinkfnchaaaDoor.T
