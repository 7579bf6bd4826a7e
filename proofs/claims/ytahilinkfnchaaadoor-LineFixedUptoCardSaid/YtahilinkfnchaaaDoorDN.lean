/- Desk, plain: a command is read back from its line; a line that is read is the one of what was read. -/
import Derived.Test.YtahilinkfnchaaaDoorDM
set_option linter.unusedVariables false
set_option linter.unusedSimpArgs false
namespace Go.Proofs.YtahilinkfnchaaaDoor.T
open Go Go.RowKit Go.Proofs
set_option maxRecDepth 10000

def fieldW (c : Com) (s : UInt8) : List UInt8 := if s = 110 then c.name.data.toList else if s = 111 then c.other.data.toList else if s = 102 then Lib.itoa c.off else if s = 99 then Lib.itoa c.count else if s = 100 then Lib.itoa c.drive else if s = 107 then Lib.itoa c.keep else hexL c.data
structure Com.Fit (c : Com) (k : Nat) : Prop where
  kind : c.kind = 1 + (k : Int)
  k19 : k < 19
  gn : (110 : UInt8) ∈ sigW k → goodName c.name = true
  go : (111 : UInt8) ∈ sigW k → goodName c.other = true
  zn : (110 : UInt8) ∉ sigW k → c.name = nE
  zo : (111 : UInt8) ∉ sigW k → c.other = nE
  zf : (102 : UInt8) ∉ sigW k → c.off = 0
  zc : (99 : UInt8) ∉ sigW k → c.count = 0
  zd : (100 : UInt8) ∉ sigW k → c.drive = 0
  zk : (107 : UInt8) ∉ sigW k → c.keep = 0
  zx : (120 : UInt8) ∉ sigW k → c.data = []
  f1 : -9223372036854775808 ≤ c.off
  f2 : c.off ≤ 9223372036854775807
  c1 : -9223372036854775808 ≤ c.count
  c2 : c.count ≤ 9223372036854775807
  d1 : -9223372036854775808 ≤ c.drive
  d2 : c.drive ≤ 9223372036854775807
  k1 : -9223372036854775808 ≤ c.keep
  k2 : c.keep ≤ 9223372036854775807
theorem nineteen {k : Nat} (hk : k < 19) : k = 0 ∨ k = 1 ∨ k = 2 ∨ k = 3 ∨ k = 4 ∨ k = 5 ∨ k = 6 ∨ k = 7 ∨ k = 8 ∨ k = 9 ∨ k = 10 ∨ k = 11 ∨ k = 12 ∨ k = 13 ∨ k = 14 ∨ k = 15 ∨ k = 16 ∨ k = 17 ∨ k = 18 := by omega
theorem sigs {k : Nat} (hk : k < 19) : sigW k = [110] ∨ sigW k = [110, 102, 120] ∨ sigW k = [110, 102, 99] ∨ sigW k = [110, 99] ∨ sigW k = [] ∨ sigW k = [111] ∨ sigW k = [111, 110, 102, 99] ∨ sigW k = [107] ∨ sigW k = [99, 107] ∨ sigW k = [100, 102] ∨ sigW k = [100] := by
  have : ∀ k : Fin 19, sigW k.val = [110] ∨ sigW k.val = [110, 102, 120] ∨ sigW k.val = [110, 102, 99] ∨ sigW k.val = [110, 99] ∨ sigW k.val = [] ∨ sigW k.val = [111] ∨ sigW k.val = [111, 110, 102, 99] ∨ sigW k.val = [107] ∨ sigW k.val = [99, 107] ∨ sigW k.val = [100, 102] ∨ sigW k.val = [100] := by decide
  exact this ⟨k, hk⟩
theorem kind_word {k : Nat} (hk : k < 19) : kindI (wordW k) = some k := by
  have : ∀ k : Fin 19, kindI (wordW k.val) = some k.val := by decide
  exact this ⟨k, hk⟩
theorem word_nb {k : Nat} (hk : k < 19) : (32 : UInt8) ∉ wordW k := by
  have : ∀ k : Fin 19, (32 : UInt8) ∉ wordW k.val := by decide
  exact this ⟨k, hk⟩
theorem kind_empty : kindI [] = none := by decide
theorem show_read {c : Com} {k : Nat} (f : c.Fit k) : (∃ c', showL (sigW k) c = some ((sigW k).map (fieldW c), c') ∧ c'.bare) ∧ readL (sigW k) ((sigW k).map (fieldW c)) { noCom with kind := 1 + (k : Int) } true = (c, true) := by
  obtain ⟨kind, k19, gn, go, zn, zo, zf, zc, zd, zk, zx, f1, f2, c1, c2, d1, d2, k1, k2⟩ := f
  obtain ⟨ck, name, other, off, count, drive, keep, data⟩ := c
  simp only at kind gn go zn zo zf zc zd zk zx f1 f2 c1 c2 d1 d2 k1 k2
  have nf := numL_itoa off f1 f2
  have nc := numL_itoa count c1 c2
  have nd := numL_itoa drive d1 d2
  have nk := numL_itoa keep k1 k2
  have ux := unhex_hex data
  subst kind
  rcases sigs k19 with e | e | e | e | e | e | e | e | e | e | e <;> rw [e] at gn go zn zo zf zc zd zk zx ⊢ <;> simp at gn go zn zo zf zc zd zk zx <;> subst_vars <;>
    simp_all [showL, showS, readL, readS, fieldW, Com.bare, noCom, B_of]

def lineW (c : Com) (k : Nat) : List (List UInt8) := wordW k :: (sigW k).map (fieldW c)
theorem field_nb {c : Com} {k : Nat} (f : c.Fit k) {s : UInt8} (hs : s ∈ sigW k) : (32 : UInt8) ∉ fieldW c s := by
  have h := sig_sign hs
  unfold fieldW
  rcases h with rfl | rfl | rfl | rfl | rfl | rfl | rfl
  · exact good_nb (f.gn hs)
  · exact good_nb (f.go hs)
  · exact itoa_nb _
  · exact itoa_nb _
  · exact itoa_nb _
  · exact itoa_nb _
  · exact hex_nb _
theorem line_nb {c : Com} {k : Nat} (f : c.Fit k) : ∀ w ∈ lineW c k, (32 : UInt8) ∉ w := by
  intro w hw
  rcases List.mem_cons.1 hw with rfl | hw
  · exact word_nb f.k19
  · obtain ⟨s, hs, rfl⟩ := List.mem_map.1 hw
    exact field_nb f hs
theorem line_show {c : Com} {k : Nat} (f : c.Fit k) : ShowP c (lineW c k) := by
  obtain ⟨⟨c', h1, h2⟩, _⟩ := show_read f
  have e : (c.kind - 1).toNat = k := by have := f.kind; omega
  have := f.k19
  have := f.kind
  exact ⟨by omega, by omega, _, c', by rw [e]; exact h1, h2, by rw [e]; rfl⟩
theorem line_read {c : Com} {k : Nat} (f : c.Fit k) : readP (joinW (lineW c k)) = some c := by
  unfold readP
  rw [cutW_join _ (by simp [lineW]) (line_nb f)]
  have h := (show_read f).2
  have h1 : (lineW c k).length = (sigW k).length + 1 := by simp [lineW]
  rw [show (lineW c k).getD 0 [] = wordW k from rfl, kind_word f.k19]
  dsimp only
  rw [if_neg (fun q => q h1), show (lineW c k).drop 1 = (sigW k).map (fieldW c) from rfl, h, if_pos rfl]
theorem line_more {c : Com} {k : Nat} (f : c.Fit k) : readP (joinW (lineW c k) ++ [32]) = none := by
  unfold readP
  rw [cutW_snoc _ (by simp [lineW]) [], cutW_join _ (by simp) (fun w hw => by
    rcases List.mem_append.1 hw with hw | hw
    · exact line_nb f w hw
    · simp at hw; subst hw; simp)]
  have hg : List.getD (lineW c k ++ [([] : List UInt8)]) 0 [] = wordW k := rfl
  rw [hg, kind_word f.k19]
  dsimp only
  rw [if_pos (by simp [lineW])]
theorem line_less {c : Com} {k : Nat} (f : c.Fit k) : readP (32 :: joinW (lineW c k)) = none := by
  unfold readP
  have e : cutW (32 :: joinW (lineW c k)) = [] :: cutW (joinW (lineW c k)) := by simp [cutW]
  have hg : List.getD (([] : List UInt8) :: cutW (joinW (lineW c k))) 0 [] = [] := rfl
  rw [e, hg, kind_empty]
theorem read_fit {k : Nat} (hk : k < 19) {ws : List (List UInt8)} (hl : ws.length = (sigW k).length) (h : (readL (sigW k) ws { noCom with kind := 1 + (k : Int) } true).2 = true) : (readL (sigW k) ws { noCom with kind := 1 + (k : Int) } true).1.Fit k ∧ ws = (sigW k).map (fieldW (readL (sigW k) ws { noCom with kind := 1 + (k : Int) } true).1) := by
  have nb := fun w => numL_bounds w
  have data : ∀ w, (unhexL w).isSome = true → hexL ((unhexL w).getD []) = w := fun w hw => by
    obtain ⟨bs, hb⟩ := Option.isSome_iff_exists.1 hw
    rw [hb]; exact hex_unhex hb
  have num : ∀ w, (numL w).2 = true → Lib.itoa (numL w).1 = w := fun w hw => numL_back hw
  rcases sigs hk with e | e | e | e | e | e | e | e | e | e | e
  all_goals rw [e] at h hl ⊢
  all_goals simp only [List.length_cons, List.length_nil] at hl
  all_goals
    match ws, hl with
    | [], hl => first | (simp at hl; done) | (refine ⟨⟨rfl, hk, ?_, ?_, ?_, ?_, ?_, ?_, ?_, ?_, ?_, ?_, ?_, ?_, ?_, ?_, ?_, ?_, ?_⟩, ?_⟩ <;> simp_all [readL, readS, noCom, fieldW])
    | [a], hl => first | (simp at hl; done) | (have na := nb a; refine ⟨⟨?_, hk, ?_, ?_, ?_, ?_, ?_, ?_, ?_, ?_, ?_, ?_, ?_, ?_, ?_, ?_, ?_, ?_, ?_⟩, ?_⟩ <;> simp_all [readL, readS, noCom, fieldW, B_data])
    | [a, b], hl => first | (simp at hl; done) | (have na := nb a; have nb' := nb b; refine ⟨⟨?_, hk, ?_, ?_, ?_, ?_, ?_, ?_, ?_, ?_, ?_, ?_, ?_, ?_, ?_, ?_, ?_, ?_, ?_⟩, ?_⟩ <;> simp_all [readL, readS, noCom, fieldW, B_data])
    | [a, b, c], hl => first | (simp at hl; done) | (have na := nb a; have nb' := nb b; have nc := nb c; refine ⟨⟨?_, hk, ?_, ?_, ?_, ?_, ?_, ?_, ?_, ?_, ?_, ?_, ?_, ?_, ?_, ?_, ?_, ?_, ?_⟩, ?_⟩ <;> simp_all [readL, readS, noCom, fieldW, B_data])
    | [a, b, c, d], hl => first | (simp at hl; done) | (have na := nb a; have nb' := nb b; have nc := nb c; have nd := nb d; refine ⟨⟨?_, hk, ?_, ?_, ?_, ?_, ?_, ?_, ?_, ?_, ?_, ?_, ?_, ?_, ?_, ?_, ?_, ?_, ?_⟩, ?_⟩ <;> simp_all [readL, readS, noCom, fieldW, B_data])
    | a :: b :: c :: d :: e :: l, hl => (simp at hl; try omega)
theorem read_line {l : List UInt8} {c : Com} (h : readP l = some c) : ∃ k, c.Fit k ∧ joinW (lineW c k) = l := by
  unfold readP at h
  cases hk : kindI ((cutW l).getD 0 []) with
  | none => rw [hk] at h; cases h
  | some k =>
    rw [hk] at h
    obtain ⟨k19, hw⟩ := kind_lt hk
    dsimp only at h
    split at h
    · cases h
    · rename_i hl
      split at h
      · rename_i ho
        obtain rfl := Option.some.inj h
        have hlen : (cutW l).length = (sigW k).length + 1 := Decidable.of_not_not hl
        obtain ⟨f, e⟩ := read_fit k19 (ws := (cutW l).drop 1) (by rw [List.length_drop]; omega) ho
        refine ⟨k, f, ?_⟩
        have : lineW (readL (sigW k) ((cutW l).drop 1) { noCom with kind := 1 + (k : Int) } true).1 k = cutW l := by
          unfold lineW
          rw [← e, hw]
          cases hc : cutW l with
          | nil => exact absurd hc (cutW_ne l)
          | cons x xs => rfl
        rw [this, join_cutW]
      · cases h
end Go.Proofs.YtahilinkfnchaaaDoor.T
