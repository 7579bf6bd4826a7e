/- Contracts about texts, on the machine: Itoa, Join, Split, Atoi, IndexByte, and bytes as digits. Nothing of one program. -/
import Derived.Test.YtahilinkfnchaaaDoorTR
set_option linter.unusedVariables false
set_option linter.unusedSimpArgs false
namespace Go.Proofs.YtahilinkfnchaaaDoor.T
open Go Go.RowKit

variable {m : PMap} {h : AHeap} {fr : Nat → Prop} {w w' : World}

/-- What a slice of cells of one each holds, in memory. -/
theorem srcS_mem {N : Nat} (s : Sim N m h fr w) {a : Option (Nat × Nat)} {n : Nat} {c : Option Nat} {q : Nat × List AV × List Nat} (hq : srcS h a n 1 = some q) {X : Value} (hx : Rel m (.slice a n c) X) :
    q.2.1.length = n ∧ ((n = 0 ∧ (X = .slice none 0 0 ∨ ∃ A k, X = .slice (some A) 0 k)) ∨ ∃ bk o k, X = .slice (some ⟨bk, o, none⟩) n k ∧ n ≤ k ∧ bk < w.heap.size ∧ ∃ xs, RelL m q.2.1 xs ∧ xs.length = n ∧ ∀ (j : Nat) x, xs[j]? = some x → w.cell? ⟨bk, o + j, none⟩ = some x) := by
  unfold srcS at hq
  cases a with
  | none =>
    obtain rfl := Option.some.inj hq
    simp only [Rel] at hx
    obtain ⟨rfl, rfl⟩ := hx
    exact ⟨rfl, .inl ⟨rfl, .inl rfl⟩⟩
  | some a =>
    simp only [Rel] at hx
    obtain ⟨p, A, k, hp, rfl, hnk, _, hA⟩ := hx
    simp only at hq
    split at hq
    · rename_i hn
      obtain rfl := Option.some.inj hq
      subst hn
      exact ⟨rfl, .inl ⟨rfl, .inr ⟨A, k, rfl⟩⟩⟩
    · rename_i hn
      obtain ⟨b, hb, hq⟩ := Option.bind_eq_some_iff.1 hq
      split at hq
      · rename_i hc
        simp only [Bool.and_eq_true, beq_iff_eq, decide_eq_true_eq, Nat.mul_one] at hc
        obtain rfl := Option.some.inj hq
        obtain ⟨rfl, _⟩ := hA (by omega)
        obtain ⟨p', hp', kb⟩ := s.blk a.1 b hb
        rw [hp] at hp'; obtain rfl := Option.some.inj hp'
        have hne : b.es ≠ MB := by rw [hc.1]; decide
        obtain ⟨xs, rx, hr⟩ := kb.cells hne
        have hl := rx.length
        simp only [Nat.mul_one]
        refine ⟨by rw [List.length_take, List.length_drop]; omega, .inr ⟨p.blk, p.base + a.2, k, rfl, hnk, kb.lt, (xs.drop a.2).take n, ?_, by rw [List.length_take, List.length_drop]; omega, fun j x hj => ?_⟩⟩
        · exact (rx.drop a.2).take n
        · rw [List.getElem?_take] at hj
          split at hj
          · rw [List.getElem?_drop] at hj
            have := hr _ _ hj
            rw [Nat.add_assoc]; exact this
          · cases hj
      · cases hq
theorem strs_rel : ∀ {vs : List AV} {xs : List Value} {ss : List ByteArray}, strsOf vs = some ss → RelL m vs xs → xs = ss.map Value.string
  | [], xs, ss, h, r => by simp only [strsOf, Option.some.injEq] at h; subst h; simp only [RelL] at r; subst r; rfl
  | v :: vs, xs, ss, h, r => by
    simp only [RelL] at r
    obtain ⟨y, r', rfl, hy, hr⟩ := r
    cases v <;> simp only [strsOf] at h <;> try (cases h; done)
    obtain ⟨ss', h', rfl⟩ := Option.map_eq_some_iff.1 h
    simp only [Rel] at hy; subst hy
    rw [strs_rel h' hr]; rfl
theorem octs_rel : ∀ {vs : List AV} {xs : List Value} {bs : List UInt8}, octsOf vs = some bs → RelL m vs xs → xs = bs.map fun b => Value.int .u8 (b.toNat : Int)
  | [], xs, ss, h, r => by simp only [octsOf, Option.some.injEq] at h; subst h; simp only [RelL] at r; subst r; rfl
  | v :: vs, xs, ss, h, r => by
    simp only [RelL] at r
    obtain ⟨y, r', rfl, hy, hr⟩ := r
    cases v <;> try (simp [octsOf] at h; done)
    rename_i k n
    cases k <;> try (simp [octsOf] at h; done)
    simp only [octsOf] at h
    split at h
    · rename_i c
      obtain ⟨ss', h', rfl⟩ := Option.map_eq_some_iff.1 h
      simp only [Rel] at hy; subst hy
      rw [octs_rel h' hr, List.map_cons]
      congr 2
      have : n.toNat < 256 := by omega
      simp [Nat.mod_eq_of_lt this]; omega
    · cases h
theorem strs_length : ∀ {vs : List AV} {ss : List ByteArray}, strsOf vs = some ss → ss.length = vs.length
  | [], ss, h => by simp only [strsOf, Option.some.injEq] at h; subst h; rfl
  | v :: vs, ss, h => by
    cases v <;> simp only [strsOf] at h <;> try (cases h; done)
    obtain ⟨ss', h', rfl⟩ := Option.map_eq_some_iff.1 h
    simp [strs_length h']
theorem octs_length : ∀ {vs : List AV} {ss : List UInt8}, octsOf vs = some ss → ss.length = vs.length
  | [], ss, h => by simp only [octsOf, Option.some.injEq] at h; subst h; rfl
  | v :: vs, ss, h => by
    cases v <;> try (simp [octsOf] at h; done)
    rename_i k n
    cases k <;> try (simp [octsOf] at h; done)
    simp only [octsOf] at h
    split at h
    · obtain ⟨ss', h', rfl⟩ := Option.map_eq_some_iff.1 h
      simp [octs_length h']
    · cases h

/-- A contract that leaves memory as it was. -/
theorem orc_still [Glo] {P : Program} {f : Nat} {xs : List Value} {h : AHeap} {nx : Nat} {G : Nat → Prop} {v : AV} {y : Value} {m : PMap} {w : World} (hN : Sim Glo.N m h (Free G nx) w) (hv : Rel m v y)
    (c : Calls P f ⟨xs⟩ w fun e w' => e = .returned y ∧ Go.RowKit.Below w.heap.size w w') :
    nx ≤ nx ∧ Calls P f ⟨xs⟩ w fun e w' => ∃ m' x, e = .returned x ∧ Rel m' v x ∧ After Glo.N m w G m' h nx w' :=
  ⟨Nat.le_refl _, c.mono fun e w' ⟨he, hb⟩ => ⟨m, y, he, hv, hN.behind hb, PMap.le_refl m, Below.behind hN.base hb⟩⟩

theorem orc_itoa [Glo] {P : Program} {f : Nat} (c : ∀ (n : Int) (w : World), -9223372036854775808 ≤ n → n ≤ 9223372036854775807 → Glo.wd w → Calls P f #[.int .i64 n] w fun e w' => e = .returned (.string ⟨(Lib.itoa n).toArray⟩) ∧ Go.RowKit.Below w.heap.size w w') : OrcOk P [5] f := by
  intro m w args xs h nx G v h' nx' hG hh hwd hr s
  obtain ⟨n, rfl, hz⟩ : ∃ n, args = [.int .i64 n] ∧ orcItoa n h nx = some (v, h', nx') := by
    unfold orcK at hh
    split at hh
    all_goals first
      | (cases hh; done)
      | (rename_i e; simp at e; done)
      | exact ⟨_, rfl, hh⟩
  clear hh
  simp only [RelL, Rel] at hr
  obtain ⟨x, _, rfl, rfl, rfl⟩ := hr
  unfold orcItoa at hz
  split at hz
  · rename_i c1
    obtain ⟨rfl, rfl, rfl⟩ : AV.str ⟨(Lib.itoa n).toArray⟩ = v ∧ h = h' ∧ nx = nx' := by simpa using hz
    exact orc_still s (by simp only [Rel]) (c n w c1.1 c1.2 hwd)
  · cases hz
theorem orc_indexB [Glo] {P : Program} {f : Nat} (c : ∀ (s : ByteArray) (b : UInt8) (w : World), Calls P f #[.string s, .int .u8 (b.toNat : Int)] w fun e w' => e = .returned (.int .i64 (Lib.indexByte s.data.toList b)) ∧ Go.RowKit.Below w.heap.size w w') : OrcOk P [9] f := by
  intro m w args xs h nx G v h' nx' hG hh hwd hr s
  obtain ⟨st, b, rfl, hz⟩ : ∃ st b, args = [.str st, .int .u8 b] ∧ orcIndexB st b h nx = some (v, h', nx') := by
    unfold orcK at hh
    split at hh
    all_goals first
      | (cases hh; done)
      | (rename_i e; simp at e; done)
      | exact ⟨_, _, rfl, hh⟩
  clear hh
  simp only [RelL, Rel] at hr
  obtain ⟨x, _, rfl, rfl, y, _, rfl, rfl, rfl⟩ := hr
  unfold orcIndexB at hz
  split at hz
  · rename_i c1
    obtain ⟨rfl, rfl, rfl⟩ : AV.int .i64 (Lib.indexByte st.data.toList (UInt8.ofNat b.toNat)) = v ∧ h = h' ∧ nx = nx' := by simpa using hz
    have hb : (((UInt8.ofNat b.toNat).toNat : Nat) : Int) = b := by
      have : b.toNat < 256 := by omega
      simp [Nat.mod_eq_of_lt this]; omega
    have k := c st (UInt8.ofNat b.toNat) w
    rw [hb] at k
    exact orc_still s (by simp only [Rel]) k
  · cases hz
theorem orc_join [Glo] {P : Program} {f : Nat}
    (c0 : ∀ (a : Option Addr) (k : Nat) (sep : ByteArray) (w : World), Calls P f #[.slice a 0 k, .string sep] w fun e w' => e = .returned (.string .empty) ∧ w' = w)
    (c : ∀ (bk o k : Nat) (ss : List ByteArray) (sep : ByteArray) (w : World), (∀ (j : Nat) x, ss[j]? = some x → w.cell? ⟨bk, o + j, none⟩ = some (.string x)) → bk < w.heap.size → ss.length ≤ 140737488355328 → ss.length ≤ k → (joinB ss sep).length ≤ 140737488355328 →
      Calls P f #[.slice (some ⟨bk, o, none⟩) ss.length k, .string sep] w fun e w' => e = .returned (.string ⟨(joinB ss sep).toArray⟩) ∧ Go.RowKit.Below w.heap.size w w') : OrcOk P [6] f := by
  intro m w args xs h nx G v h' nx' hG hh hwd hr s
  obtain ⟨a, n, cc, sep, rfl, hz⟩ : ∃ a n cc sep, args = [.slice a n cc, .str sep] ∧ orcJoin a n sep h nx = some (v, h', nx') := by
    unfold orcK at hh
    split at hh
    all_goals first
      | (cases hh; done)
      | (rename_i e; simp at e; done)
      | exact ⟨_, _, _, _, rfl, hh⟩
  clear hh
  simp only [RelL] at hr
  obtain ⟨X, _, rfl, hx, y, _, rfl, hy, rfl⟩ := hr
  simp only [Rel] at hy; subst hy
  unfold orcJoin at hz
  obtain ⟨q, hq, hz⟩ := Option.bind_eq_some_iff.1 hz
  obtain ⟨ss, hss, hz⟩ := Option.bind_eq_some_iff.1 hz
  split at hz
  · rename_i c1
    obtain ⟨rfl, rfl, rfl⟩ : AV.str ⟨(joinB ss sep).toArray⟩ = v ∧ h = h' ∧ nx = nx' := by simpa using hz
    obtain ⟨hl, hm⟩ := srcS_mem s hq hx
    have hsl := strs_length hss
    rcases hm with ⟨hn, hX⟩ | ⟨bk, o, k, rfl, hnk, hbk, ys, ry, hyl, hcell⟩
    · subst hn
      have : ss = [] := List.length_eq_zero_iff.1 (by omega)
      subst this
      have hj : (⟨(joinB [] sep).toArray⟩ : ByteArray) = .empty := by simp [joinB, Lib.join]; rfl
      rw [hj]
      rcases hX with rfl | ⟨A, k, rfl⟩
      · exact orc_still s (by simp only [Rel]) ((c0 none 0 sep w).mono fun e w' ⟨h1, h2⟩ => ⟨h1, h2 ▸ Go.RowKit.Below.refl _ _⟩)
      · exact orc_still s (by simp only [Rel]) ((c0 (some A) k sep w).mono fun e w' ⟨h1, h2⟩ => ⟨h1, h2 ▸ Go.RowKit.Below.refl _ _⟩)
    · have hys := strs_rel hss ry
      have hnl : n = ss.length := by omega
      subst hnl
      refine orc_still s (by simp only [Rel]) (c bk o k ss sep w (fun j x hj => hcell j _ ?_) hbk c1.2 (by omega) c1.1)
      rw [hys, List.getElem?_map, hj]; rfl
  · cases hz
theorem orc_hex [Glo] {P : Program} {f : Nat}
    (c0 : ∀ (a : Option Addr) (k : Nat) (w : World), Calls P f #[.slice a 0 k] w fun e w' => e = .returned (.string ⟨#[45]⟩) ∧ Go.RowKit.Below w.heap.size w w')
    (c : ∀ (bk o k : Nat) (bs : List UInt8) (w : World), (∀ (j : Nat) x, bs[j]? = some x → w.cell? ⟨bk, o + j, none⟩ = some (.int .u8 (x.toNat : Int))) → bk < w.heap.size → bs ≠ [] → bs.length ≤ 35184372088832 → bs.length ≤ k →
      Calls P f #[.slice (some ⟨bk, o, none⟩) bs.length k] w fun e w' => e = .returned (.string ⟨(hexL bs).toArray⟩) ∧ Go.RowKit.Below w.heap.size w w') : OrcOk P [10] f := by
  intro m w args xs h nx G v h' nx' hG hh hwd hr s
  obtain ⟨a, n, cc, rfl, hz⟩ : ∃ a n cc, args = [.slice a n cc] ∧ orcHex a n h nx = some (v, h', nx') := by
    unfold orcK at hh
    split at hh
    all_goals first
      | (cases hh; done)
      | (rename_i e; simp at e; done)
      | exact ⟨_, _, _, rfl, hh⟩
  clear hh
  simp only [RelL] at hr
  obtain ⟨X, _, rfl, hx, rfl⟩ := hr
  unfold orcHex at hz
  obtain ⟨q, hq, hz⟩ := Option.bind_eq_some_iff.1 hz
  obtain ⟨bs, hbs, hz⟩ := Option.bind_eq_some_iff.1 hz
  split at hz
  · rename_i c1
    obtain ⟨rfl, rfl, rfl⟩ : AV.str ⟨(hexL bs).toArray⟩ = v ∧ h = h' ∧ nx = nx' := by simpa using hz
    obtain ⟨hl, hm⟩ := srcS_mem s hq hx
    have hsl := octs_length hbs
    by_cases hn : n = 0
    · subst hn
      have : bs = [] := List.length_eq_zero_iff.1 (by omega)
      subst this
      have hx0 : Rel m (.str ⟨(hexL []).toArray⟩) (.string ⟨#[45]⟩) := by simp only [Rel]; rfl
      rcases hm with ⟨_, rfl | ⟨A, k, rfl⟩⟩ | ⟨bk, o, k, rfl, _⟩
      · exact orc_still s hx0 (c0 none 0 w)
      · exact orc_still s hx0 (c0 (some A) k w)
      · exact orc_still s hx0 (c0 _ k w)
    · rcases hm with ⟨q, _⟩ | ⟨bk, o, k, rfl, hnk, hbk, ys, ry, hyl, hcell⟩
      · exact absurd q hn
      · have hys := octs_rel hbs ry
        have hnl : n = bs.length := by omega
        subst hnl
        refine orc_still s (by simp only [Rel]) (c bk o k bs w (fun j x hj => hcell j _ ?_) hbk (fun e => hn (by rw [e]; rfl)) c1 (by omega))
        rw [hys, List.getElem?_map, hj]; rfl
  · cases hz
theorem orc_atoi [Glo] {P : Program} {f te : Nat}
    (c1 : ∀ (s : ByteArray) (v : Int) (w : World), s.size ≤ 281474976710656 → Glo.wd w → Lib.atoiAll s.data.toList = .ok v → Calls P f #[.string s] w fun e w' => e = .returned (.tuple #[.int .i64 v, .nilIface]) ∧ Go.RowKit.Below w.heap.size w w')
    (c2 : ∀ (s : ByteArray) (w : World), s.size ≤ 281474976710656 → Glo.wd w → (∀ v, Lib.atoiAll s.data.toList ≠ .ok v) → Lib.atoiAll s.data.toList ≠ .range → Calls P f #[.string s] w fun e w' => ∃ x, e = .returned (.tuple #[.int .i64 0, .iface te x]) ∧ Go.RowKit.Below w.heap.size w w')
    (c3 : ∀ (s : ByteArray) (w : World), s.size ≤ 281474976710656 → Glo.wd w → Lib.atoiAll s.data.toList = .range → Calls P f #[.string s] w fun e w' => ∃ x, e = .returned (.tuple #[.int .i64 (Lib.atoiSat s.data.toList), .iface te x]) ∧ Go.RowKit.Below w.heap.size w w') : OrcOk P [8, te] f := by
  intro m w args xs h nx G v h' nx' hG hh hwd hr s
  obtain ⟨st, rfl, hz⟩ : ∃ st, args = [.str st] ∧ orcAtoi te st h nx = some (v, h', nx') := by
    unfold orcK at hh
    split at hh
    all_goals first
      | (cases hh; done)
      | (rename_i e; simp at e; done)
      | (rename_i e; simp at e; obtain rfl := e; exact ⟨_, rfl, hh⟩)
  clear hh
  simp only [RelL, Rel] at hr
  obtain ⟨x, _, rfl, rfl, rfl⟩ := hr
  unfold orcAtoi at hz
  have many : ∀ {n : Int}, (Calls P f #[.string st] w fun e w' => ∃ x, e = .returned (.tuple #[.int .i64 n, .iface te x]) ∧ Go.RowKit.Below w.heap.size w w') →
      nx ≤ nx ∧ Calls P f ⟨[.string st]⟩ w fun e w' => ∃ m' x, e = .returned x ∧ Rel m' (.tuple [.int .i64 n, .iface te .bad]) x ∧ After Glo.N m w G m' h nx w' := fun k =>
    ⟨Nat.le_refl _, k.mono fun e w' ⟨x, he, hb⟩ => ⟨m, _, he, by simp only [Rel, RelL]; exact ⟨_, rfl, _, _, rfl, rfl, _, _, rfl, ⟨_, rfl, trivial⟩, rfl⟩, s.behind hb, PMap.le_refl m, Below.behind s.base hb⟩⟩
  split at hz
  · rename_i hsz
    split at hz
    · rename_i n hn
      obtain ⟨rfl, rfl, rfl⟩ : AV.tuple [.int .i64 n, .nilIface] = v ∧ h = h' ∧ nx = nx' := by simpa using hz
      exact orc_still s (by simp only [Rel, RelL]; exact ⟨_, rfl, _, _, rfl, rfl, _, _, rfl, rfl, rfl⟩) (c1 st n w hsz hwd hn)
    · rename_i hn
      obtain ⟨rfl, rfl, rfl⟩ : AV.tuple [.int .i64 (Lib.atoiSat st.data.toList), .iface te .bad] = v ∧ h = h' ∧ nx = nx' := by simpa using hz
      exact many (c3 st w hsz hwd hn)
    · rename_i hn1 hn2
      obtain ⟨rfl, rfl, rfl⟩ : AV.tuple [.int .i64 0, .iface te .bad] = v ∧ h = h' ∧ nx = nx' := by simpa using hz
      exact many (c2 st w hsz hwd hn1 hn2)
  · cases hz
theorem str_relL (m : PMap) : ∀ ss : List ByteArray, RelL m (ss.map AV.str) (ss.map Value.string)
  | [] => by simp [RelL]
  | s :: ss => by simp only [List.map_cons, RelL, Rel]; exact ⟨_, _, rfl, rfl, str_relL m ss⟩
theorem orc_split [Glo] {P : Program} {f t9 : Nat}
    (c : ∀ (s sep : ByteArray) (w : World), Glo.wd w → s.size < 4294967281 → 1 ≤ sep.size → Calls P f #[.string s, .string sep] w fun e w' =>
      e = .returned (.slice (some ⟨w.heap.size, 0, none⟩) (Lib.countB s sep + 1) (Lib.countB s sep + 1)) ∧ w' = w.alloc (.cells ((Lib.splitB sep 0 (Lib.countB s sep) s).map Value.string).toArray t9)) : OrcOk P [7] f := by
  intro m w args xs h nx G v h' nx' hG hh hwd hr s
  obtain ⟨st, sep, rfl, hz⟩ : ∃ st sep, args = [.str st, .str sep] ∧ orcSplit st sep h nx = some (v, h', nx') := by
    unfold orcK at hh
    split at hh
    all_goals first
      | (cases hh; done)
      | (rename_i e; simp at e; done)
      | exact ⟨_, _, rfl, hh⟩
  clear hh
  simp only [RelL, Rel] at hr
  obtain ⟨x, _, rfl, rfl, y, _, rfl, rfl, rfl⟩ := hr
  unfold orcSplit at hz
  split at hz
  · rename_i c1
    obtain ⟨h1, h2, h3⟩ := c1
    generalize hk : Lib.countB st sep + 1 = k at *
    generalize hp : Lib.splitB sep 0 (Lib.countB st sep) st = parts at *
    obtain ⟨rfl, rfl, rfl⟩ : AV.slice (some (nx, 0)) k (some k) = v ∧ h.put nx (some ⟨parts.map AV.str, 1, true⟩) = h' ∧ nx + 1 = nx' := by simpa using hz
    obtain ⟨s2, le⟩ := s.alloc (.inr (Nat.le_refl nx)) (parts.map AV.str) (parts.map Value.string) [] (str_relL m parts) (allOne_of (fun v hv => by obtain ⟨z, _, rfl⟩ := List.mem_map.1 hv; rfl)) t9 1 k (by rw [List.length_map]; omega) (by simp; omega) (by decide)
    rw [List.append_nil] at s2
    have k0 := c st sep w hwd h2 h1
    rw [hk, hp] at k0
    refine ⟨by omega, k0.mono ?_⟩
    rintro e w' ⟨rfl, rfl⟩
    refine ⟨_, _, rfl, ?_, s2.mono fun j hj => ?_, le, (Below.refl Glo.N w).alloc s.base _⟩
    · simp only [Rel]
      refine ⟨⟨w.heap.size, 0, k, 1⟩, ⟨w.heap.size, 0, none⟩, k, by simp [PMap.put], rfl, Nat.le_refl _, fun z q => ?_, fun _ => ⟨rfl, by simp⟩⟩
      obtain rfl := Option.some.inj q
      exact CapIs.self _
    · rcases hj with hj | hj
      · exact ⟨.inl hj, by have := hG j hj; omega⟩
      · exact ⟨.inr (by omega), by omega⟩
  · cases hz
end Go.Proofs.YtahilinkfnchaaaDoor.T
