/- '==' of structs, to whatever depth, as '==' of their cells. Nothing of one program. -/
import Derived.Test.YtahilinkfnchaaaDoorT1
import Derived.Laws.StructEq
import Derived.ChangeKeysEq
set_option linter.unusedVariables false
set_option linter.unusedSimpArgs false
namespace Go.Proofs.YtahilinkfnchaaaDoor.T
open Go Go.RowKit

inductive EK where
  | int (k : IntKind)
  | bool
  | str

def EK.okA : EK → AV → Bool
  | .int k, .int k' _ => decide (k = k')
  | .bool, .bool _ => true
  | .str, .str _ => true
  | _, _ => false
def EK.okV : EK → Value → Bool
  | .int k, .int k' _ => decide (k = k')
  | .bool, .bool _ => true
  | .str, .string _ => true
  | _, _ => false
def fitsA : List EK → List AV → Bool
  | [], [] => true
  | k :: ks, v :: vs => k.okA v && fitsA ks vs
  | _, _ => false
def fitsV : List EK → List Value → Bool
  | [], [] => true
  | k :: ks, v :: vs => k.okV v && fitsV ks vs
  | _, _ => false

def eqA1 : AV → AV → Bool
  | .int _ a, .int _ b => a == b
  | .bool a, .bool b => a == b
  | .str a, .str b => a.data == b.data
  | _, _ => false
def eqCells : List AV → List AV → Bool
  | [], [] => true
  | [a], [b] => eqA1 a b
  | a :: as, b :: bs => eqA1 a b && eqCells as bs
  | _, _ => false

theorem eqCells_cons (a b : AV) (as bs : List AV) : eqCells (a :: as) (b :: bs) = (eqA1 a b && eqCells as bs) := by
  cases as <;> cases bs <;> simp [eqCells]

/-- A struct's kinds, its cells in a row. -/
def kindsE (P : Program) : Nat → TypeId → Option (List EK)
  | 0, _ => none
  | n + 1, t =>
    match P.underlying t with
    | some (.int k) => some [.int k]
    | some .bool => some [.bool]
    | some .string => some [.str]
    | some (.struct fs) => if P.stoodInHeld t = false then
        fs.toList.foldr (fun f r => fun off => if f.name ≠ "_" ∧ f.offset = off then (kindsE P n f.type).bind fun a => if P.cellsOf f.type = a.length then (r (off + a.length)).map fun b => a ++ b else none else none) (fun _ => some []) 0
      else none
    | _ => none

theorem fitsV_length : ∀ {ks : List EK} {vs : List Value}, fitsV ks vs = true → vs.length = ks.length
  | [], [], _ => rfl
  | _ :: ks, _ :: vs, h => by simp only [fitsV, Bool.and_eq_true] at h; simp [fitsV_length h.2]
  | [], _ :: _, h => by cases h
  | _ :: _, [], h => by cases h
theorem fitsV_append : ∀ {ks ls : List EK} {vs : List Value}, fitsV (ks ++ ls) vs = true → fitsV ks (vs.take ks.length) = true ∧ fitsV ls (vs.drop ks.length) = true
  | [], ls, vs, h => by simpa [fitsV] using h
  | k :: ks, ls, [], h => by cases h
  | k :: ks, ls, v :: vs, h => by
    simp only [List.cons_append, fitsV, Bool.and_eq_true] at h
    have := fitsV_append h.2
    simp only [List.length_cons, List.take_succ_cons, List.drop_succ_cons, fitsV, Bool.and_eq_true]
    exact ⟨⟨h.1, this.1⟩, this.2⟩

/-- The value of cells. -/
def IsV (P : Program) (t : TypeId) (X : Value) (cs : List Value) : Prop :=
  match P.underlying t with
  | some (.struct _) => X = .agg ⟨cs⟩
  | _ => cs = [X]

theorem run_partE {P : Program} {w : World} {n : Nat} {t : TypeId} {ks : List EK} (hk : kindsE P n t = some ks) (hc : P.cellsOf t = ks.length) {xs : Array Value} {off : Nat} (hf : fitsV ks ((xs.toList.drop off).take ks.length) = true) :
    ∃ X, (part t xs off).run P w = .ok X w ∧ IsV P t X ((xs.toList.drop off).take ks.length) := by
  cases n with
  | zero => cases hk
  | succ n =>
    unfold kindsE at hk
    unfold IsV
    cases hu : P.underlying t with
    | none => rw [hu] at hk; cases hk
    | some d =>
      have plain : P.plainKey t = true → ks.length = 1 → ∃ X, (part t xs off).run P w = .ok X w ∧ (xs.toList.drop off).take ks.length = [X] := by
        intro hp hl
        have := fitsV_length hf
        rw [hl] at this ⊢
        obtain ⟨v, hv⟩ := List.length_eq_one_iff.1 this
        exact ⟨v, run_part_plain w hp (getElem?_of_chunk hv), hv⟩
      rw [hu] at hk
      cases d <;> simp only [Option.some.injEq] at hk <;> try (cases hk; done)
      case bool => subst hk; exact plain (by simp [Program.plainKey, hu]) rfl
      case int q => subst hk; exact plain (by simp [Program.plainKey, hu]) rfl
      case string => subst hk; exact plain (by simp [Program.plainKey, hu]) rfl
      case struct fs =>
        obtain ⟨i, hi⟩ := info_of_underlying hu
        refine ⟨.agg (xs.extract off (off + P.cellsOf t)), by simp [part, isAgg, run_underlying hu, run_sizeOf w hi], ?_⟩
        have hl : (xs.extract off (off + P.cellsOf t)).toList = (xs.toList.drop off).take (P.cellsOf t) := by
          rw [Array.toList_extract]; simp [List.extract]
        show Value.agg _ = Value.agg _
        rw [← hc, ← hl]

theorem eqE {P : Program} : ∀ (n : Nat) {t : TypeId} {ks : List EK}, kindsE P n t = some ks → ∀ (d : Nat) (w : World) (cx cy : List Value) (X Y : Value), fitsV ks cx = true → fitsV ks cy = true → IsV P t X cx → IsV P t Y cy →
    ∃ r, (Op.equalIn (d + n) t X Y).run P w = .ok r w ∧ (r = true ↔ cx = cy)
  | 0, t, ks, hk => by cases hk
  | n + 1, t, ks, hk => by
    intro d w cx cy X Y fx fy ix iy
    unfold kindsE at hk
    unfold IsV at ix iy
    cases hu : P.underlying t with
    | none => rw [hu] at hk; cases hk
    | some dd =>
      rw [hu] at hk ix iy
      cases dd <;> simp only [Option.some.injEq] at hk <;> try (cases hk; done)
      case bool =>
        subst hk; subst ix; subst iy
        cases X <;> simp only [fitsV, EK.okV, Bool.false_and, Bool.false_eq_true] at fx
        cases Y <;> simp only [fitsV, EK.okV, Bool.false_and, Bool.false_eq_true] at fy
        exact ⟨_, run_equalIn_bool w (d + n) t _ _ hu, by simp⟩
      case int q =>
        subst hk; subst ix; subst iy
        cases X <;> simp only [fitsV, EK.okV, Bool.false_and, Bool.false_eq_true] at fx
        cases Y <;> simp only [fitsV, EK.okV, Bool.false_and, Bool.false_eq_true] at fy
        simp only [Bool.and_true, decide_eq_true_eq] at fx fy
        subst fx; subst fy
        exact ⟨_, run_equalIn_int w (d + n) t _ _ _ _ hu, by simp⟩
      case string =>
        subst hk; subst ix; subst iy
        cases X <;> simp only [fitsV, EK.okV, Bool.false_and, Bool.false_eq_true] at fx
        cases Y <;> simp only [fitsV, EK.okV, Bool.false_and, Bool.false_eq_true] at fy
        exact ⟨_, run_equalIn_string w (d + n) t _ _ hu, by simp [ByteArray.toList_eq]; exact ⟨fun e => ByteArray.ext e, fun e => by rw [e]⟩⟩
      case struct fs =>
        by_cases hs : P.stoodInHeld t = false
        · rw [if_pos hs] at hk
          simp only at ix iy
          subst ix; subst iy
          have hfs : P.fieldsOf t = fs := by simp [Program.fieldsOf, hu]
          have main : ∀ (l : List Field) (off : Nat) (rs : List EK), l.foldr (fun f r => fun off => if f.name ≠ "_" ∧ f.offset = off then (kindsE P n f.type).bind fun a => if P.cellsOf f.type = a.length then (r (off + a.length)).map fun b => a ++ b else none else none) (fun _ => some []) off = some rs →
              fitsV rs (cx.drop off) = true → fitsV rs (cy.drop off) = true → ∃ r, (Op.eqFields (d + n) ⟨cx⟩ ⟨cy⟩ l).run P w = .ok r w ∧ (r = true ↔ cx.drop off = cy.drop off) := by
            intro l
            induction l with
            | nil =>
              intro off rs h1 h2 h3
              simp only [List.foldr_nil, Option.some.injEq] at h1
              subst h1
              have e1 := fitsV_length h2
              have e2 := fitsV_length h3
              exact ⟨true, by simp [Op.eqFields], by simp [List.length_eq_zero_iff.1 e1, List.length_eq_zero_iff.1 e2]⟩
            | cons f l ih =>
              intro off rs h1 h2 h3
              simp only [List.foldr_cons] at h1
              split at h1
              · rename_i hc
                obtain ⟨hnm, rfl⟩ := hc
                obtain ⟨a, ha, h1⟩ := Option.bind_eq_some_iff.1 h1
                split at h1
                · rename_i hcell
                  obtain ⟨b, hb, rfl⟩ := Option.map_eq_some_iff.1 h1
                  obtain ⟨x1, x2⟩ := fitsV_append h2
                  obtain ⟨y1, y2⟩ := fitsV_append h3
                  rw [List.drop_drop] at x2 y2
                  obtain ⟨A, pa, ia⟩ := run_partE (P := P) (w := w) ha hcell (xs := ⟨cx⟩) (off := f.offset) x1
                  obtain ⟨B, pb, ib⟩ := run_partE (P := P) (w := w) ha hcell (xs := ⟨cy⟩) (off := f.offset) y1
                  obtain ⟨r, pr, ir⟩ := eqE n ha d w _ _ A B x1 y1 ia ib
                  obtain ⟨r', pr', ir'⟩ := ih (f.offset + a.length) b hb x2 y2
                  have hsplit : cx.drop f.offset = cy.drop f.offset ↔ (cx.drop f.offset).take a.length = (cy.drop f.offset).take a.length ∧ cx.drop (f.offset + a.length) = cy.drop (f.offset + a.length) := by
                    constructor
                    · intro e; rw [e]; exact ⟨rfl, by rw [← List.drop_drop, ← List.drop_drop, e]⟩
                    · rintro ⟨e1, e2⟩
                      rw [← List.drop_drop, ← List.drop_drop] at e2
                      rw [← List.take_append_drop a.length (cx.drop f.offset), ← List.take_append_drop a.length (cy.drop f.offset), e1, e2]
                  simp only [Op.eqFields, hnm, ne_eq, not_false_eq_true, if_true, Sem.run_bind, pa, pb, pr, Result.andThen_ok]
                  cases r
                  · exact ⟨false, by simp, by simp; intro e; exact absurd (ir.2 (hsplit.1 e).1) (by simp)⟩
                  · refine ⟨r', by simpa using pr', ?_⟩
                    rw [ir', hsplit]
                    exact ⟨fun e => ⟨ir.1 rfl, e⟩, fun e => e.2⟩
                · cases h1
              · cases h1
          obtain ⟨r, hr, hi⟩ := main fs.toList 0 ks hk (by simpa using fx) (by simpa using fy)
          refine ⟨r, ?_, by simpa using hi⟩
          rw [show d + (n + 1) = (d + n) + 1 from rfl, run_equalIn_struct w (d + n) t _ _ (by rw [hfs]; exact hu) hs, hfs]
          exact hr
        · rw [if_neg hs] at hk; cases hk

theorem relL_fits {m : PMap} : ∀ {ks : List EK} {as : List AV} {xs : List Value}, RelL m as xs → fitsA ks as = true → fitsV ks xs = true
  | [], [], xs, r, _ => by simp only [RelL] at r; subst r; rfl
  | k :: ks, a :: as, xs, r, h => by
    simp only [RelL] at r
    obtain ⟨y, q, rfl, r1, r2⟩ := r
    simp only [fitsA, Bool.and_eq_true] at h
    simp only [fitsV, Bool.and_eq_true]
    refine ⟨?_, relL_fits r2 h.2⟩
    have h1 := h.1
    cases k <;> cases a <;> simp only [EK.okA, Bool.false_eq_true, decide_eq_true_eq] at h1 <;> simp only [Rel] at r1 <;> subst r1 <;> simp [EK.okV, h1]
  | [], _ :: _, _, _, h => by cases h
  | _ :: _, [], _, _, h => by cases h

theorem eqCells_iff {m : PMap} : ∀ {ks : List EK} {as bs : List AV} {xs ys : List Value}, RelL m as xs → RelL m bs ys → fitsA ks as = true → fitsA ks bs = true → (eqCells as bs = true ↔ xs = ys)
  | [], [], [], xs, ys, r, q, _, _ => by simp only [RelL] at r q; subst r; subst q; simp [eqCells]
  | k :: ks, a :: as, b :: bs, xs, ys, r, q, ha, hb => by
    simp only [RelL] at r q
    obtain ⟨x, xs, rfl, r1, r2⟩ := r
    obtain ⟨y, ys, rfl, q1, q2⟩ := q
    simp only [fitsA, Bool.and_eq_true] at ha hb
    have ih := eqCells_iff r2 q2 ha.2 hb.2
    have h1 := ha.1
    have h2 := hb.1
    rw [eqCells_cons, Bool.and_eq_true, ih, List.cons.injEq]
    have : eqA1 a b = true ↔ x = y := by
      cases k <;> cases a <;> simp only [EK.okA, Bool.false_eq_true, decide_eq_true_eq] at h1 <;> cases b <;> simp only [EK.okA, Bool.false_eq_true, decide_eq_true_eq] at h2 <;> simp only [Rel] at r1 q1 <;> subst r1 <;> subst q1
      · subst h1; subst h2; simp [eqA1]
      · simp [eqA1]
      · simp only [eqA1, beq_iff_eq, Value.string.injEq]; exact ⟨fun e => ByteArray.ext e, fun e => by rw [e]⟩
    rw [this]
  | [], _ :: _, _, _, _, _, _, h, _ => by cases h
  | [], [], _ :: _, _, _, _, _, _, h => by cases h
  | _ :: _, [], _, _, _, _, _, h, _ => by cases h
  | _ :: _, _ :: _, [], _, _, _, _, _, h => by cases h

end Go.Proofs.YtahilinkfnchaaaDoor.T
