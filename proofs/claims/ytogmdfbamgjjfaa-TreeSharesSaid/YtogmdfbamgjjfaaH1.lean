/- Trees: nodes in memory; room, levelOf, fresh. -/
import Derived.Test.YtogmdfbamgjjfaaTK
import Derived.Test.YtogmdfbamgjjfaaPt
set_option linter.unusedVariables false
set_option linter.unusedSimpArgs false
namespace Go.Proofs.Ytogmdfbamgjjfaa.T
open Go Go.RowKit Go.Proofs

/-- Change a function at one place. -/
def up {α : Type} (f : Nat → α) (i : Nat) (v : α) : Nat → α := fun j => if j = i then v else f j
theorem up_same {α : Type} (f : Nat → α) (i : Nat) (v : α) : up f i v i = v := by simp [up]
theorem up_ne {α : Type} {f : Nat → α} {i j : Nat} {v : α} (h : j ≠ i) : up f i v j = f j := by simp [up, h]

inductive Tr where
  | nil
  | nd (id birth : Nat) (k : Nat → Tr) (ds : Nat → Int)
def Tr.kids : Tr → Nat → Tr
  | .nil => fun _ => .nil
  | .nd _ _ k _ => k
def Tr.dat : Tr → Nat → Int
  | .nil => fun _ => 0
  | .nd _ _ _ ds => ds

def datC (ds : Nat → Int) : List AV := (List.range 64).map fun i => .int .u8 (ds i)
/-- The cells of a node. -/
def cellsN (id birth lv : Nat) (q : Nat → Option (Nat × Nat)) (ds : Nat → Int) : List AV :=
  .int .i64 (id : Int) :: .int .i64 (birth : Int) :: .int .i64 (lv : Int) :: .ptr (q 0) :: .ptr (q 1) :: .ptr (q 2) :: .ptr (q 3) :: datC ds
def blkN (id birth lv : Nat) (q : Nat → Option (Nat × Nat)) (ds : Nat → Int) : ABlk := ⟨cellsN id birth lv q ds, 1, true⟩
theorem datC_len (ds : Nat → Int) : (datC ds).length = 64 := by simp [datC]
theorem cellsN_len (id birth lv : Nat) (q : Nat → Option (Nat × Nat)) (ds : Nat → Int) : (cellsN id birth lv q ds).length = 71 := by simp [cellsN, datC]
theorem cellsN_kids (id birth lv : Nat) (q : Nat → Option (Nat × Nat)) (ds : Nat → Int) : ((cellsN id birth lv q ds).drop 3).take 4 = [.ptr (q 0), .ptr (q 1), .ptr (q 2), .ptr (q 3)] := by simp [cellsN]
theorem cellsN_dat (id birth lv : Nat) (q : Nat → Option (Nat × Nat)) (ds : Nat → Int) : ((cellsN id birth lv q ds).drop 7).take 64 = datC ds := by simp only [cellsN, List.drop_succ_cons, List.drop_zero]; exact List.take_of_length_le (Nat.le_of_eq (datC_len ds))
theorem kid_at (q : Nat → Option (Nat × Nat)) {i : Nat} (h : i < 4) : ([.ptr (q 0), .ptr (q 1), .ptr (q 2), .ptr (q 3)] : List AV)[i]? = some (.ptr (q i)) := by
  match i, h with
  | 0, _ => rfl
  | 1, _ => rfl
  | 2, _ => rfl
  | 3, _ => rfl
theorem dat_at (ds : Nat → Int) {i : Nat} (h : i < 64) : (datC ds)[i]? = some (.int .u8 (ds i)) := by simp [datC, h]
theorem cellsN_setk (id birth lv : Nat) (q : Nat → Option (Nat × Nat)) (ds : Nat → Int) {i : Nat} (h : i < 4) (p : Option (Nat × Nat)) : (cellsN id birth lv q ds).set (3 + i) (.ptr p) = cellsN id birth lv (up q i p) ds := by
  match i, h with
  | 0, _ => simp [cellsN, up]
  | 1, _ => simp [cellsN, up]
  | 2, _ => simp [cellsN, up]
  | 3, _ => simp [cellsN, up]
theorem datC_set (ds : Nat → Int) {i : Nat} (h : i < 64) (v : Int) : (datC ds).set i (.int .u8 v) = datC (up ds i v) := by
  apply List.ext_getElem?
  intro j
  rw [List.getElem?_set]
  by_cases c : i = j
  · subst c; rw [if_pos rfl, if_pos (by rw [datC_len]; exact h), dat_at _ h, up_same]
  · rw [if_neg c]
    by_cases hj : j < 64
    · rw [dat_at _ hj, dat_at _ hj, up_ne (fun e => c e.symm)]
    · rw [List.getElem?_eq_none (by rw [datC_len]; omega), List.getElem?_eq_none (by rw [datC_len]; omega)]
theorem cellsN_setd (id birth lv : Nat) (q : Nat → Option (Nat × Nat)) (ds : Nat → Int) {i : Nat} (h : i < 64) (v : Int) : (cellsN id birth lv q ds).set (7 + i) (.int .u8 v) = cellsN id birth lv q (up ds i v) := by
  rw [show 7 + i = i + 1 + 1 + 1 + 1 + 1 + 1 + 1 by omega]
  simp only [cellsN, List.set_cons_succ, datC_set ds h v]

/-- A tree in memory of height n (its root is of level n - 1); its blocks are of A. -/
def Kd (A : Nat → Prop) : Nat → AHeap → Option (Nat × Nat) → Tr → Prop
  | 0, _, p, t => p = none ∧ t = .nil
  | n + 1, h, p, t => (p = none ∧ t = .nil) ∨ ∃ id bi k ds b q, t = .nd id bi k ds ∧ p = some (b, 0) ∧ A b ∧ h b = some (blkN id bi n q ds) ∧ ∀ i, i < 4 → Kd A n h (q i) (k i)
theorem Kd.nil (A : Nat → Prop) (n : Nat) (h : AHeap) : Kd A n h none .nil := by
  cases n with
  | zero => exact ⟨rfl, rfl⟩
  | succ n => exact .inl ⟨rfl, rfl⟩
theorem Kd.go {A A' : Nat → Prop} {h h' : AHeap} (k : ∀ b, A b → A' b) (f : ∀ b, A b → h' b = h b) : ∀ {n : Nat} {p : Option (Nat × Nat)} {t : Tr}, Kd A n h p t → Kd A' n h' p t
  | 0, _, _, w => w
  | n + 1, _, _, w => w.imp id fun ⟨id, bi, kk, ds, b, q, e1, e2, e3, e4, e5⟩ => ⟨id, bi, kk, ds, b, q, e1, e2, k _ e3, (f _ e3).trans e4, fun i hi => (e5 i hi).go k f⟩
theorem Kd.nil_iff {A : Nat → Prop} {n : Nat} {h : AHeap} {p : Option (Nat × Nat)} {t : Tr} (w : Kd A n h p t) : (p = none ↔ t = .nil) := by
  cases n with
  | zero => obtain ⟨rfl, rfl⟩ := w; simp
  | succ n =>
    rcases w with ⟨rfl, rfl⟩ | ⟨id, bi, kk, ds, b, q, rfl, rfl, _⟩
    · simp
    · simp

/-- All births are before now. -/
def Old (now : Nat) : Nat → Tr → Prop
  | 0, t => t = .nil
  | n + 1, t => match t with
    | .nil => True
    | .nd _ b k _ => b < now ∧ ∀ i, i < 4 → Old now n (k i)
theorem Old.nil (now n : Nat) : Old now n .nil := by cases n <;> simp [Old]

def room (l : Nat) : Nat := 64 * 4 ^ l
theorem room_succ (l : Nat) : room (l + 1) = 4 * room l := by unfold room; rw [Nat.pow_succ]; omega
theorem room_pos (l : Nat) : 0 < room l := by unfold room; have := Nat.pow_pos (n := l) (show 0 < 4 by omega); omega
theorem room_0 : room 0 = 64 := rfl
theorem room_1 : room 1 = 256 := rfl
theorem room_2 : room 2 = 1024 := rfl
theorem room_3 : room 3 = 4096 := rfl
theorem room_le {l : Nat} (h : l ≤ 6) : room l ≤ 262144 := by
  unfold room
  have : 4 ^ l ≤ 4 ^ 6 := Nat.pow_le_pow_right (by omega) h
  omega
theorem room3_le {l : Nat} (h : l ≤ 3) : room l ≤ 4096 := by
  unfold room
  have : 4 ^ l ≤ 4 ^ 3 := Nat.pow_le_pow_right (by omega) h
  omega

theorem room_spec {f : Nat} (hf : 1 ≤ f) (Y : YldF) {l : Nat} (hl : l ≤ 6) (h : AHeap) (nx : Nat) : callP Try.prog keepT f Y 28 [.int .i64 (l : Int)] h nx = some (.int .i64 (room l : Int), h, nx + 5) := by
  obtain ⟨f, rfl⟩ : ∃ m, f = m + 1 := ⟨f - 1, by omega⟩
  rw [F28_eq, wA (by omega) (by omega), if_neg (by omega)]
  have e : (64 * (2:Int) ^ min (Int.toNat (2 * (l : Int))) (IntKind.bits .i64)) = (room l : Int) := by
    rw [show Int.toNat (2 * (l : Int)) = 2 * l by omega, show min (2 * l) (IntKind.bits .i64) = 2 * l by show min (2 * l) 64 = _; omega, Int.pow_mul]
    unfold room; push_cast; rfl
  have := room_le hl
  rw [e, wA (by omega) (by omega)]

def lev (s : Nat) : Nat := if s ≤ 64 then 0 else if s ≤ 256 then 1 else if s ≤ 1024 then 2 else 3
theorem lev_le (s : Nat) : lev s ≤ 3 := by unfold lev; split <;> (try split) <;> (try split) <;> omega
theorem lev_room {s : Nat} (h : s ≤ 4096) : s ≤ room (lev s) := by
  unfold lev
  split
  · rw [room_0]; omega
  split
  · rw [room_1]; omega
  split
  · rw [room_2]; omega
  · rw [room_3]; omega
theorem lev_low {s l : Nat} (h : l < lev s) : room l < s := by
  have := lev_le s
  have h3 : l = 0 ∨ l = 1 ∨ l = 2 := by omega
  unfold lev at h
  rcases h3 with rfl | rfl | rfl
  · rw [room_0]; split at h <;> omega
  · rw [room_1]; split at h <;> (try split at h) <;> omega
  · rw [room_2]; split at h <;> (try split at h) <;> (try split at h) <;> omega
theorem lev_mono {a b : Nat} (h : a ≤ b) : lev a ≤ lev b := by
  unfold lev
  split <;> split <;> (try split) <;> (try split) <;> (try split) <;> (try split) <;> omega

theorem lev_loop {f : Nat} {Y : YldF} (hf : 1 ≤ f) {g s : Nat} (hs : s ≤ 4096) (h : AHeap) (d : Nat) : ∀ (lf l nx : Nat), l + d = lev s → d < lf → ∃ m, nx ≤ m ∧ F22_L1 (callP Try.prog keepT f) Y g lf (s : Int) (l : Int) h nx = some (.int .i64 (lev s : Int), h, m) := by
  have l3 := lev_le s
  induction d with
  | zero =>
    intro lf l nx e hl
    obtain ⟨lf, rfl⟩ : ∃ m, lf = m + 1 := ⟨lf - 1, by omega⟩
    obtain rfl : l = lev s := by omega
    have := lev_room hs
    rw [F22_L1_eq, room_spec hf Y (by omega)]
    simp only [mst_]
    rw [if_neg (by rw [decide_eq_true_eq]; omega)]
    exact ⟨_, Nat.le_trans (Nat.le_add_right nx 11) (Nat.le_refl _), rfl⟩
  | succ d ih =>
    intro lf l nx e hl
    obtain ⟨lf, rfl⟩ : ∃ m, lf = m + 1 := ⟨lf - 1, by omega⟩
    have := lev_low (s := s) (l := l) (by omega)
    rw [F22_L1_eq, room_spec hf Y (by omega)]
    simp only [mst_]
    rw [if_pos (decide_eq_true (by omega)), wsucc (by omega)]
    obtain ⟨m, a, b⟩ := ih lf (l + 1) (nx + 4 + 5 + 3) (by omega) (by omega)
    exact ⟨m, by omega, b⟩
theorem lev_spec {f : Nat} (hf : 10 ≤ f) (Y : YldF) {s : Nat} (hs : s ≤ 4096) (h : AHeap) (nx : Nat) : ∃ m, nx ≤ m ∧ callP Try.prog keepT f Y 22 [.int .i64 (s : Int)] h nx = some (.int .i64 (lev s : Int), h, m) := by
  obtain ⟨f, rfl⟩ : ∃ m, f = m + 1 := ⟨f - 1, by omega⟩
  have := lev_le s
  rw [F22_eq]
  obtain ⟨m, a, b⟩ := lev_loop (f := f) (Y := Y) (g := f) (by omega) hs h (lev s) f 0 (nx + 2) (by omega) (by omega)
  exact ⟨m, by omega, b⟩

/-- The forest's struct: its versions at va, and how many nodes were made. -/
def FrB (h : AHeap) (F : Nat) (va : Option (Nat × Nat)) (n : Nat) (c : Bool) (m : Nat) : Prop := h F = some ⟨[.slice va n c, .int .i64 (m : Int)], 2, true⟩

/-- fresh: a node like another one. -/
theorem fresh_spec {f : Nat} (hf : 1 ≤ f) (Y : YldF) {h : AHeap} {nx F now m lv : Nat} {va : Option (Nat × Nat)} {c : Bool} (hF : FrB h F va now c m) (lF : F < nx) (hm : m ≤ 1000000) {p : Option (Nat × Nat)} {id bi : Nat} {q : Nat → Option (Nat × Nat)} {ds : Nat → Int}
    (hp : (p = none ∧ (∀ i, q i = none) ∧ ds = fun _ => 0) ∨ ∃ b, p = some (b, 0) ∧ b < nx ∧ h b = some (blkN id bi lv q ds)) :
    ∃ h' nx', callP Try.prog keepT f Y 29 [.ptr (some (F, 0)), .ptr p, .int .i64 (lv : Int)] h nx = some (.ptr (some (nx + 3, 0)), h', nx') ∧ Frm (fun i => i = F) h nx h' nx' ∧ nx + 4 ≤ nx' ∧ FrB h' F va now c (m + 1) ∧ h' (nx + 3) = some (blkN (m + 1) now lv q ds) := by
  obtain ⟨f, rfl⟩ : ∃ m, f = m + 1 := ⟨f - 1, by omega⟩
  have tail : ∀ (id0 bi0 : Nat) (h1 : AHeap) (n1 : Nat), nx + 4 ≤ n1 → (∀ i, i < nx → h1 i = h i) → h1 (nx + 3) = some (blkN id0 bi0 lv q ds) → ∃ h' nx', F29_J1 (callP Try.prog keepT f) Y f (some (F, 0)) (some (nx + 3, 0)) h1 n1 = some (.ptr (some (nx + 3, 0)), h', nx') ∧ Frm (fun i => i = F) h nx h' nx' ∧ nx + 4 ≤ nx' ∧ FrB h' F va now c (m + 1) ∧ h' (nx + 3) = some (blkN (m + 1) now lv q ds) := by
    intro id0 bi0 h1 n1 l1 hh e1
    have hF1 : h1 F = some ⟨[.slice va now c, .int .i64 (m : Int)], 2, true⟩ := (hh F lF).trans hF
    rw [F29_J1_eq]
    simp only [mst_]
    rw [ld_at hF1 (v := .int .i64 (m : Int)) rfl]
    simp only [mst_]
    rw [wsucc (by omega), st_one hF1 rfl (by simp)]
    have hF2 : (h1.put F (some ⟨([.slice va now c, .int .i64 (m : Int)] : List AV).set (0 + 1) (.int .i64 ((m + 1 : Nat) : Int)), 2, true⟩)) F = some ⟨[.slice va now c, .int .i64 ((m + 1 : Nat) : Int)], 2, true⟩ := by rw [put_same]; rfl
    have e2 : (h1.put F (some ⟨([.slice va now c, .int .i64 (m : Int)] : List AV).set (0 + 1) (.int .i64 ((m + 1 : Nat) : Int)), 2, true⟩)) (nx + 3) = some (blkN id0 bi0 lv q ds) := by rw [put_ne (by omega)]; exact e1
    have x2 : ∀ i, i < nx → i ≠ F → (h1.put F (some ⟨([.slice va now c, .int .i64 (m : Int)] : List AV).set (0 + 1) (.int .i64 ((m + 1 : Nat) : Int)), 2, true⟩)) i = h i := fun i hi hd => by rw [put_ne hd]; exact hh i hi
    generalize h1.put F (some ⟨([.slice va now c, .int .i64 (m : Int)] : List AV).set (0 + 1) (.int .i64 ((m + 1 : Nat) : Int)), 2, true⟩) = h2 at *
    rw [ld_at hF2 (v := .int .i64 ((m + 1 : Nat) : Int)) rfl]
    simp only [mst_]
    rw [ld_at hF2 (v := .slice va now c) rfl]
    simp only [mst_]
    rw [st_one e2 rfl (by rw [cellsN_len]; omega)]
    have e3 : (h2.put (nx + 3) (some ⟨(cellsN id0 bi0 lv q ds).set 0 (.int .i64 ((m + 1 : Nat) : Int)), 1, true⟩)) (nx + 3) = some ⟨cellsN (m + 1) bi0 lv q ds, 1, true⟩ := by rw [put_same]; rfl
    rw [st_one e3 rfl (by rw [cellsN_len]; omega), put_put]
    refine ⟨_, _, rfl, ⟨by omega, fun i hi hd => by rw [put_ne (by omega)]; exact x2 i hi hd⟩, by omega, ?_, ?_⟩
    · unfold FrB; rw [put_ne (by omega)]; exact hF2
    · rw [put_same]; rfl
  rw [F29_eq]
  dsimp only
  generalize hh1 : AHeap.put h (nx + 3) _ = h1
  have x1 : ∀ i, i < nx → h1 i = h i := fun i hi => by rw [← hh1, put_ne (by omega)]
  have e1 : h1 (nx + 3) = some (blkN 0 0 lv (fun _ => none) (fun _ => 0)) := by rw [← hh1, put_same]; rfl
  rcases hp with ⟨rfl, hq, rfl⟩ | ⟨b, rfl, lb, eb⟩
  · rw [if_neg (by simp)]
    obtain rfl : q = fun _ => none := funext hq
    exact tail 0 0 h1 _ (by omega) x1 e1
  · rw [if_pos (by simp)]
    simp only [mst_]
    have eb1 : h1 b = some ⟨cellsN id bi lv q ds, 1, true⟩ := (x1 b lb).trans eb
    rw [ldr_all eb1 (cellsN_len _ _ _ _ _)]
    rw [st_all (show h1 (nx + 3) = some ⟨cellsN 0 0 lv (fun _ => none) (fun _ => 0), 1, true⟩ from e1) (cellsN_len _ _ _ _ _) (cellsN_len _ _ _ _ _) (by simp [cellsN, datC, allOne, AV.one])]
    exact tail id bi _ _ (by omega) (fun i hi => by rw [put_ne (by omega)]; exact x1 i hi) (by rw [put_same]; rfl)

end Go.Proofs.Ytogmdfbamgjjfaa.T
