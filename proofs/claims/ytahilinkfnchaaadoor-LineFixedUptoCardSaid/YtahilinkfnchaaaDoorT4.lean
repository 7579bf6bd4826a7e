/- The abstract machine's slices: cut, len, append, copy, make. Nothing of a program. -/
import Derived.Test.YtahilinkfnchaaaDoorT3
import Derived.Deep.DeepAppendWide
set_option linter.unusedVariables false
set_option linter.unusedSimpArgs false
namespace Go.Proofs.YtahilinkfnchaaaDoor.T
open Go Go.RowKit

variable {R : Type} {P : Program} {T : Types} {N : Nat} {m : PMap} {h : AHeap} {fr : Nat → Prop} {w : World}

theorem TOk.slice (ht : TOk P T) {t e : Nat} {ti te : TI} (et : T t = some ti) (ed : ti.desc = .slice e) (ee : T e = some te) :
    P.underlying t = some (.slice e) ∧ (sizeOf e).run P w = .ok te.size w ∧ ∃ info z, P.info? e = some info ∧ info.size = te.size ∧ info.bytes = te.bytes ∧ info.zero = some z ∧ (∀ m, Rel m te.zero z) ∧ te.zero.cells.length = te.size ∧ allOne te.zero.cells = true := by
  obtain ⟨info, z, hu, _⟩ := ht.info et
  rw [ed] at hu
  obtain ⟨info', z', hu', hi', hs', hb', hz', hr', hl', ho'⟩ := ht.info ee
  exact ⟨hu, (ht.at ee).2.1, info', z', hi', hs', hb', hz', hr', hl', ho'⟩

/-! ### cuts -/
def boundA (x : Option AV) (dflt y : Nat) : Option Nat :=
  match x with
  | none => some dflt
  | some (.int _ i) => if 0 ≤ i ∧ i ≤ (y : Int) then some i.toNat else none
  | _ => none

def ORel (m : PMap) : Option AV → Option Value → Prop
  | none, none => True
  | some v, some x => Rel m v x
  | _, _ => False

theorem boundA_sim {x : Option AV} {X : Option Value} {d y n : Nat} (hx : ORel m x X) (hh : boundA x d y = some n) :
    (X = none ∧ x = none ∧ n = d) ∨ (∃ k i, X = some (.int k i) ∧ x = some (.int k i) ∧ 0 ≤ i ∧ i ≤ (y : Int) ∧ n = i.toNat) := by
  unfold boundA at hh
  split at hh
  · cases X with
    | none => exact .inl ⟨rfl, rfl, (Option.some.inj hh).symm⟩
    | some v => simp [ORel] at hx
  · rename_i k i
    cases X with
    | none => simp [ORel] at hx
    | some v =>
      simp only [ORel, Rel] at hx
      by_cases c : 0 ≤ i ∧ i ≤ (y : Int)
      · rw [if_pos c] at hh; exact .inr ⟨k, i, by rw [hx], rfl, c.1, c.2, (Option.some.inj hh).symm⟩
      · rw [if_neg c] at hh; cases hh
  · cases hh

/-- low, high, and the new capacity's end where one is given. -/
def boundsD (lo hi mx : Option AV) (len top : Nat) : Option (Nat × Nat × Option Nat) :=
  match mx with
  | none => (boundA hi len top).bind fun hv => (boundA lo 0 hv).bind fun lv => some (lv, hv, none)
  | some _ => match hi with
    | none => none
    | some _ => (boundA mx top top).bind fun mv => (boundA hi len mv).bind fun hv => (boundA lo 0 hv).bind fun lv => some (lv, hv, some mv)

theorem boundsD_sim {lo hi mx : Option AV} {Lo Hi Mx : Option Value} {len top cap : Nat} {l hv : Nat} {mo : Option Nat} (isS : Bool) (hlt : len ≤ top) (hlc : top ≤ cap) (h1 : ORel m lo Lo) (h2 : ORel m hi Hi) (h3 : ORel m mx Mx)
    (hh : boundsD lo hi mx len top = some (l, hv, mo)) : l ≤ hv ∧ hv ≤ top ∧ (∀ mv, mo = some mv → hv ≤ mv ∧ mv ≤ top) ∧
      (Instr.sliceBounds isS len cap Lo Hi Mx).run P w = .ok (l, hv, mo.getD cap) w := by
  unfold boundsD at hh
  split at hh
  · cases Mx with
    | some v => simp [ORel] at h3
    | none =>
      cases e2 : boundA hi len top with
      | none => rw [e2] at hh; cases hh
      | some hv =>
        rw [e2] at hh; simp only [Option.bind_some] at hh
        cases e1 : boundA lo 0 hv with
        | none => rw [e1] at hh; cases hh
        | some lv =>
          rw [e1] at hh; simp only [Option.bind_some, Option.some.injEq, Prod.mk.injEq] at hh
          rcases boundA_sim h2 e2 with ⟨rfl, _, rfl⟩ | ⟨k2, i2, rfl, _, p2, q2, rfl⟩ <;> rcases boundA_sim h1 e1 with ⟨rfl, _, rfl⟩ | ⟨k1, i1, rfl, _, p1, q1, rfl⟩
          · obtain ⟨rfl, rfl, rfl⟩ := hh; exact ⟨by omega, by omega, (fun mv e => by cases e), by simp [Instr.sliceBounds]⟩
          · obtain ⟨rfl, rfl, rfl⟩ := hh; exact ⟨by omega, by omega, (fun mv e => by cases e), by simp [Instr.sliceBounds, run_sliceBound, p1, q1]⟩
          · obtain ⟨rfl, rfl, rfl⟩ := hh; exact ⟨by omega, by omega, (fun mv e => by cases e), by simp [Instr.sliceBounds, run_sliceBound, p2, (show i2 ≤ (cap : Int) by omega)]⟩
          · obtain ⟨rfl, rfl, rfl⟩ := hh; exact ⟨by omega, by omega, (fun mv e => by cases e), by
            have b1 := fun c w' => run_sliceBound (P := P) w' k1 i1 i2.toNat c p1 q1
            have b2 := fun c w' => run_sliceBound (P := P) w' k2 i2 cap c p2 (by omega)
            simp [Instr.sliceBounds, b1, b2]⟩
  · split at hh
    · cases hh
    · rename_i mxv _ hiv
      cases e3 : boundA (some mxv) top top with
      | none => rw [e3] at hh; cases hh
      | some mv =>
        rw [e3] at hh; simp only [Option.bind_some] at hh
        cases e2 : boundA (some hiv) len mv with
        | none => rw [e2] at hh; cases hh
        | some hv =>
          rw [e2] at hh; simp only [Option.bind_some] at hh
          cases e1 : boundA lo 0 hv with
          | none => rw [e1] at hh; cases hh
          | some lv =>
            rw [e1] at hh; simp only [Option.bind_some, Option.some.injEq, Prod.mk.injEq] at hh
            rcases boundA_sim h3 e3 with ⟨_, c, _⟩ | ⟨k3, i3, rfl, _, p3, q3, rfl⟩
            · cases c
            rcases boundA_sim h2 e2 with ⟨_, c, _⟩ | ⟨k2, i2, rfl, _, p2, q2, rfl⟩
            · cases c
            rcases boundA_sim h1 e1 with ⟨rfl, _, rfl⟩ | ⟨k1, i1, rfl, _, p1, q1, rfl⟩
            · obtain ⟨rfl, rfl, rfl⟩ := hh; exact ⟨by omega, by omega, (fun mv e => by cases e; omega), by
              have b2 := fun c w' => run_sliceBound (P := P) w' k2 i2 i3.toNat c p2 q2
              have b3 := fun c w' => run_sliceBound (P := P) w' k3 i3 cap c p3 (by omega)
              simp [Instr.sliceBounds, b2, b3]⟩
            · obtain ⟨rfl, rfl, rfl⟩ := hh; exact ⟨by omega, by omega, (fun mv e => by cases e; omega), by
              have b1 := fun c w' => run_sliceBound (P := P) w' k1 i1 i2.toNat c p1 q1
              have b2 := fun c w' => run_sliceBound (P := P) w' k2 i2 i3.toNat c p2 q2
              have b3 := fun c w' => run_sliceBound (P := P) w' k3 i3 cap c p3 (by omega)
              simp [Instr.sliceBounds, b1, b2, b3]⟩

def shiftAddr (a : Option (Nat × Nat)) (n : Nat) : Option (Nat × Nat) := a.map fun a => (a.1, a.2 + n)
/-- Does the block's element have this size? -/
def esIs (h : AHeap) (a : Option (Nat × Nat)) (es : Nat) : Bool := match a with | none => true | some a => (match h a.1 with | some b => b.es == es | none => false)

def rdOf (a : Option (Nat × Nat)) : List Nat := match a with | none => [] | some a => [a.1]

/-- A cut of a slice: where it begins, its length, whether it is known to end there. -/
def topOf (a : Option (Nat × Nat)) (n : Nat) (cap : Option Nat) : Nat := match a, cap with
  | some _, some k => max n (capMin k)
  | _, _ => n
def capCut (n : Nat) (cap : Option Nat) (l : Nat) : Nat := match cap with
  | none => CB + (n - l)
  | some k => bif Nat.blt k CB then k - l else CB + (k - CB - l)
theorem capCut_is {n l c : Nat} {cap : Option Nat} (h : n ≤ c) (hc : ∀ k, cap = some k → CapIs k c) : CapIs (capCut n cap l) (c - l) := by
  unfold capCut
  cases cap with
  | none => exact ⟨fun q => by simp only at q; omega, fun _ => by simp only; omega⟩
  | some k =>
    simp only
    have hk := hc k rfl
    by_cases q : k < CB
    · rw [show Nat.blt k CB = true by rw [Nat.blt_eq]; exact q, cond_true]
      have := hk.1 q
      subst this
      exact CapIs.self _
    · have : Nat.blt k CB = false := by rw [← Bool.not_eq_true, Nat.blt_eq]; exact q
      rw [this, cond_false]
      have := hk.2 (by omega)
      exact ⟨fun q => by omega, fun _ => by omega⟩
def cutA (h : AHeap) (a : Option (Nat × Nat)) (n : Nat) (cap : Option Nat) (es : Nat) (lo hi mx : Option AV) : Option (Option (Nat × Nat) × Nat × Option Nat) :=
  (boundsD lo hi mx n (topOf a n cap)).bind fun q => if (Nat.beq q.1 0 || esIs h a es) = true then some (shiftAddr a (q.1 * es), q.2.1 - q.1, match q.2.2 with | none => some (capCut n cap q.1) | some mv => some (mv - q.1)) else none
def cutS (s : ByteArray) (lo hi : Option AV) : Option ByteArray := (boundsD lo hi none s.size s.size).bind fun q => some (s.extract q.1 q.2.1)
/-- A cut of an array. -/
def cutR (h : AHeap) (a : Option (Nat × Nat)) (n es : Nat) (lo hi mx : Option AV) : Option (Option (Nat × Nat) × Nat × Option Nat) :=
  a.bind fun a => (h a.1).bind fun b => if (b.es == es && decide (a.2 + n * es ≤ b.cells.length)) = true then (boundsD lo hi mx n n).bind fun q => some (some (a.1, a.2 + q.1 * es), q.2.1 - q.1, some (q.2.2.getD n - q.1)) else none

def sliceA (T : Types) (t : Nat) (x : AV) (lo hi mx : Option AV) (h : AHeap) (K : Eff → Option R) : Option R :=
  match x, T t with
  | .slice a n clip, some ti =>
    (match ti.desc with
     | .slice e => (match T e with
       | some te => (cutA h a n clip te.size lo hi mx).bind fun s => K ⟨.slice s.1 s.2.1 s.2.2, [], rdOf a⟩
       | none => none)
     | _ => none)
  | .str s, some ti =>
    (match ti.desc, mx with
     | .string, none => (cutS s lo hi).bind fun s => K ⟨.str s, [], []⟩
     | _, _ => none)
  | .ptr a, some ti =>
    (match ti.desc with
     | .array n e => (match T e with
       | some te => (cutR h a n te.size lo hi mx).bind fun s => K ⟨.slice s.1 s.2.1 s.2.2, [], rdOf a⟩
       | none => none)
     | _ => none)
  | _, _ => none

theorem sliceA_sim (ht : TOk P T) (s : Sim N m h fr w) (id : Nat) {t : Nat} {x : AV} {X : Value} {lo hi mx : Option AV} {Lo Hi Mx : Option Value} {K : Eff → Option R} {r : R} (hx : Rel m x X)
    (h1 : ORel m lo Lo) (h2 : ORel m hi Hi) (h3 : ORel m mx Mx) (hh : sliceA T t x lo hi mx h K = some r) : ∃ e, K e = some r ∧ Does P N m h fr w id e (Instr.sliceAt t X Lo Hi Mx) := by
  unfold sliceA at hh
  split at hh
  · rename_i a n clip ti et
    split at hh
    · rename_i e ed
      split at hh
      · rename_i te ee
        obtain ⟨hu, hsz, _⟩ := ht.slice (w := w) et ed ee
        unfold cutA at hh
        · cases hb : boundsD lo hi mx n (topOf a n clip) with
          | none => rw [hb] at hh; cases hh
          | some q =>
            obtain ⟨l, hv, mo⟩ := q
            rw [hb] at hh
            simp only [Option.bind_some] at hh
            by_cases c : (Nat.beq l 0 || esIs h a te.size) = true
            case neg => rw [if_neg c] at hh; cases hh
            rw [if_pos c] at hh
            simp only [Option.bind_some] at hh
            have step : ∀ (A : Option Addr) (cc : Nat), X = .slice A n cc → n ≤ topOf a n clip → topOf a n clip ≤ cc → l ≤ hv ∧ hv ≤ topOf a n clip ∧ (∀ mv, mo = some mv → hv ≤ mv ∧ mv ≤ topOf a n clip) ∧
                (Instr.sliceAt t X Lo Hi Mx).run P w = .ok (.slice (if mo.getD cc = l then A else A.map (·.add (l * te.size))) (hv - l) (mo.getD cc - l)) w := by
              intro A cc hX hct hcc
              obtain ⟨q1, q2, q3, q4⟩ := boundsD_sim (P := P) (w := w) true hct hcc h1 h2 h3 hb
              refine ⟨q1, q2, q3, ?_⟩
              subst hX
              simp [Instr.sliceAt, Instr.slice, run_underlying hu, q4, hsz]
            cases a with
            | none =>
              simp only [Rel] at hx
              obtain ⟨rfl, rfl⟩ := hx
              have ht0 : topOf none 0 clip = 0 := by cases clip <;> rfl
              obtain ⟨q1, q2, q3, q4⟩ := step none 0 rfl (Nat.le_of_eq ht0.symm) (Nat.le_of_eq ht0)
              rw [ht0] at q2 q3
              have hm : mo.getD 0 = 0 := by
                cases mo with
                | none => rfl
                | some mv => have := (q3 mv rfl).2; show mv = 0; omega
              refine ⟨_, hh, Does.pure s q4 ?_⟩
              rw [hm]
              simp only [shiftAddr, Option.map_none, Rel]
              refine ⟨by omega, ?_⟩
              rw [show hv - l = 0 by omega, show 0 - l = 0 by omega]
              split <;> rfl
            | some a =>
              simp only [Rel] at hx
              obtain ⟨p, A, cc, hp, rfl, hn, hcl, hA⟩ := hx
              have htop : n ≤ topOf (some a) n clip ∧ topOf (some a) n clip ≤ cc := by
                cases clip with
                | none => exact ⟨Nat.le_refl _, hn⟩
                | some k => exact ⟨Nat.le_max_left _ _, Nat.max_le.2 ⟨hn, (hcl k rfl).min_le⟩⟩
              obtain ⟨q1, q2, q3, q4⟩ := step (some A) cc rfl htop.1 htop.2
              have hes : l = 0 ∨ p.es = te.size := by
                rcases (Bool.or_eq_true _ _).mp c with c | c
                · exact .inl (Nat.eq_of_beq_eq_true c)
                right
                unfold esIs at c
                cases hb : h a.1 with
                | none => simp [hb] at c
                | some b =>
                  simp [hb] at c
                  obtain ⟨p', hp', ok⟩ := s.blk a.1 b hb
                  rw [hp] at hp'; obtain rfl := Option.some.inj hp'
                  rw [ok.es (by rw [c]; have := ht.small _ _ ee; have := MB_LB; omega), c]
              refine ⟨_, hh, Does.pure s q4 ?_⟩
              have hm : hv ≤ mo.getD cc ∧ mo.getD cc ≤ cc := by
                cases mo with
                | none => exact ⟨by show hv ≤ cc; omega, Nat.le_refl _⟩
                | some mv => have := q3 mv rfl; exact ⟨this.1, by show mv ≤ cc; omega⟩
              simp only [shiftAddr, Option.map_some, Rel]
              refine ⟨p, (if mo.getD cc = l then A else A.add (l * te.size)), mo.getD cc - l, hp, by split <;> rfl, by omega, ?_, ?_⟩
              · cases mo with
                | none =>
                  intro k hk
                  obtain rfl := Option.some.inj hk
                  exact capCut_is hn hcl
                | some mv => intro k hk; obtain rfl := Option.some.inj hk; exact CapIs.self _
              · intro hne
                have hc0 : cc ≠ 0 := by omega
                obtain ⟨rfl, hcap⟩ := hA hc0
                rw [if_neg (by omega), Addr.add_mid]
                refine ⟨by rw [Nat.add_assoc], ?_⟩
                rcases hes with rfl | hes
                · rw [Nat.zero_mul, Nat.add_zero, Nat.sub_zero]
                  have : mo.getD cc * p.es ≤ cc * p.es := Nat.mul_le_mul_right _ (by omega)
                  omega
                rw [hes] at hcap ⊢
                have : (l + (mo.getD cc - l)) * te.size ≤ cc * te.size := Nat.mul_le_mul_right _ (by omega)
                rw [Nat.add_mul] at this
                omega
      · cases hh
    · cases hh
  · rename_i sx ti et
    simp only [Rel] at hx
    subst hx
    split at hh
    · rename_i ed
      cases Mx with
      | some v => simp [ORel] at h3
      | none =>
        obtain ⟨info, z, hu, _⟩ := ht.info et
        rw [ed] at hu
        unfold cutS at hh
        cases hb : boundsD lo hi none sx.size sx.size with
        | none => rw [hb] at hh; cases hh
        | some q =>
          obtain ⟨l, hv, mo⟩ := q
          rw [hb] at hh
          simp only [Option.bind_some] at hh
          obtain ⟨q1, q2, q3, q4⟩ := boundsD_sim (P := P) (w := w) false (Nat.le_refl _) (Nat.le_refl _) h1 h2 h3 hb
          refine ⟨_, hh, Does.pure s (x := .string (sx.extract l hv)) ?_ (by simp only [Rel])⟩
          simp [Instr.sliceAt, Instr.slice, run_underlying hu, q4]
    · cases hh
  · rename_i a ti et
    split at hh
    · rename_i n e ed
      split at hh
      · rename_i te ee
        cases a with
        | none => cases hh
        | some a =>
        simp only [Rel] at hx
        obtain ⟨p, hp, rfl⟩ := hx
        unfold cutR at hh
        simp only [Option.bind_some] at hh
        cases hb : h a.1 with
        | none => rw [hb] at hh; cases hh
        | some b =>
        rw [hb] at hh; simp only [Option.bind_some] at hh
        by_cases c : (b.es == te.size && decide (a.2 + n * te.size ≤ b.cells.length)) = true
        · rw [if_pos c] at hh
          simp only [Bool.and_eq_true, beq_iff_eq, decide_eq_true_eq] at c
          obtain ⟨info, z, hu, _⟩ := ht.info et
          rw [ed] at hu
          cases hbd : boundsD lo hi mx n n with
          | none => rw [hbd] at hh; cases hh
          | some q =>
          obtain ⟨l, hv, mo⟩ := q
          rw [hbd] at hh
          simp only [Option.bind_some] at hh
          obtain ⟨q1, q2, q3, q4⟩ := boundsD_sim (P := P) (w := w) false (Nat.le_refl _) (Nat.le_refl _) h1 h2 h3 hbd
          refine ⟨_, hh, Does.pure s (x := .slice (some (if mo.getD n = l then ⟨p.blk, p.base + a.2, none⟩ else (⟨p.blk, p.base + a.2, none⟩ : Addr).add (l * te.size))) (hv - l) (mo.getD n - l)) ?_ ?_⟩
          · simp [Instr.sliceAt, Instr.sureAddr, run_underlying hu, q4, (ht.at (w := w) ee).2.1]
          · obtain ⟨p', hp', ok⟩ := s.blk a.1 b hb
            rw [hp] at hp'; obtain rfl := Option.some.inj hp'
            have hm : hv ≤ mo.getD n ∧ mo.getD n ≤ n := by
              cases mo with
              | none => exact ⟨q2, Nat.le_refl _⟩
              | some mv => exact q3 mv rfl
            simp only [Rel]
            refine ⟨p, _, _, hp, rfl, by omega, by intro k hk; obtain rfl := Option.some.inj hk; exact CapIs.self _, ?_⟩
            intro hne
            rw [if_neg (by omega), Addr.add_mid]
            refine ⟨by rw [Nat.add_assoc], ?_⟩
            rw [ok.es (by rw [c.1]; have := ht.small _ _ ee; have := MB_LB; omega), c.1]
            have h1 : (l + (mo.getD n - l)) * te.size ≤ n * te.size := Nat.mul_le_mul_right _ (by omega)
            rw [Nat.add_mul] at h1
            have := ok.fits (by rw [c.1]; have := ht.small _ _ ee; omega)
            omega
        · rw [if_neg c] at hh; cases hh
      · cases hh
    · cases hh
  · cases hh

/-! ### len -/
def lenA (T : Types) (t : Nat) (x : AV) (K : Eff → Option R) : Option R :=
  match T t with
  | some ti => (match ti.desc, x with
    | .string, .str s => K ⟨.int .i64 s.size, [], []⟩
    | .slice _, .slice _ n _ => K ⟨.int .i64 n, [], []⟩
    | .array n _, _ => K ⟨.int .i64 n, [], []⟩
    | _, _ => none)
  | none => none

theorem lenA_sim (ht : TOk P T) (s : Sim N m h fr w) (id : Nat) {t ty : Nat} {ts : Array TypeId} (h0 : ts[0]? = some t) {x : AV} {X : Value} {K : Eff → Option R} {r : R} (hx : Rel m x X) (hh : lenA T t x K = some r) :
    ∃ e, K e = some r ∧ Does P N m h fr w id e (Builtin.len_ ts ty #[X]) := by
  unfold lenA at hh
  split at hh
  · rename_i ti et
    obtain ⟨info, z, hu, _⟩ := ht.info et
    split at hh
    · rename_i ed
      simp only [Rel] at hx; subst hx
      rw [ed] at hu
      exact ⟨_, hh, Does.pure s (by simp [Builtin.len_, h0, run_underlying hu, goInt]; rfl) (by simp only [Rel])⟩
    · rename_i a n c ed
      rw [ed] at hu
      have : ∃ A cc, X = .slice A n cc := by
        cases a with
        | none => simp only [Rel] at hx; obtain ⟨rfl, rfl⟩ := hx; exact ⟨_, _, rfl⟩
        | some a => simp only [Rel] at hx; obtain ⟨p, A, cc, _, rfl, _⟩ := hx; exact ⟨_, _, rfl⟩
      obtain ⟨A, cc, rfl⟩ := this
      exact ⟨_, hh, Does.pure s (by simp [Builtin.len_, h0, run_underlying hu, goInt]; rfl) (by simp only [Rel])⟩
    · rename_i n e _ ed
      rw [ed] at hu
      exact ⟨_, hh, Does.pure s (by simp [Builtin.len_, h0, run_underlying hu, goInt]; rfl) (by simp only [Rel])⟩
    · cases hh
  · cases hh

end Go.Proofs.YtahilinkfnchaaaDoor.T
