/- YtdkknhpdjcdmfaaJB41: texts that follow each other, as one. -/
import Derived.Test.YtdkknhpdjcdmfaaJB40
import Derived.Test.YtdkknhpdjcdmfaaJB37
/- Maps, there and back: what is read was written in just that way. -/
set_option linter.unusedSimpArgs false
set_option linter.unusedVariables false
namespace Go.Proofs.Ytdkknhpdjcdmfaa.Abs
open Go Go.RowKit Go.Proofs

theorem numF_back {b : List Int} (hb : ∀ c, c ∈ b → 0 ≤ c ∧ c < 256) (most : Int) (frm : Nat) (e : Int) : ∀ (left : Nat) (n : Int) (sh a : Nat), (numF b most frm e left n sh a).2.code = 0 →
    (numF b most frm e left n sh a).1 ≤ most ∧ ∃ v : Nat, (numF b most frm e left n sh a).1 = n + v * 2 ^ sh ∧ (v ≠ 0 ∨ sh = 0) ∧ b.drop a = putF v ++ b.drop (numF b most frm e left n sh a).2.at_ := by
  have last : ∀ (left : Nat) (n : Int) (sh a : Nat) (c : Int), b[a]? = some c → ¬ 128 ≤ c → (numF b most frm e left n sh a).2.code = 0 →
      (numF b most frm e left n sh a).1 ≤ most ∧ ∃ v : Nat, (numF b most frm e left n sh a).1 = n + v * 2 ^ sh ∧ (v ≠ 0 ∨ sh = 0) ∧ b.drop a = putF v ++ b.drop (numF b most frm e left n sh a).2.at_ := by
    intro left n sh a c hc c1 h
    have c0 := hb c (List.mem_of_getElem? hc)
    unfold numF at h ⊢
    rw [hc] at h ⊢
    simp only at h ⊢
    rw [if_neg c1] at h ⊢
    split at h
    · cases h
    · rename_i c2
      rw [if_neg c2]
      split at h
      · cases h
      · rename_i c3
        rw [if_neg c3]
        have hv : ((c.toNat : Nat) : Int) = c := by omega
        refine ⟨by simp only; omega, c.toNat, by simp only [hv], ?_, ?_⟩
        · omega
        · rw [putF_small (by omega), hv]
          exact drop_get hc
  intro left
  induction left with
  | zero =>
    intro n sh a h
    cases hc : b[a]? with
    | none => unfold numF at h; rw [hc] at h; cases h
    | some c =>
      by_cases c1 : 128 ≤ c
      · unfold numF at h
        rw [hc] at h
        simp only at h
        rw [if_pos c1] at h
        cases h
      · exact last 0 n sh a c hc c1 h
  | succ left ih =>
    intro n sh a h
    cases hc : b[a]? with
    | none => unfold numF at h; rw [hc] at h; cases h
    | some c =>
      by_cases c1 : 128 ≤ c
      · have c0 := hb c (List.mem_of_getElem? hc)
        unfold numF at h ⊢
        rw [hc] at h ⊢
        simp only at h ⊢
        rw [if_pos c1] at h ⊢
        obtain ⟨h1, v, h2, h3, h4⟩ := ih _ _ _ h
        refine ⟨h1, (c % 128).toNat + 128 * v, ?_, ?_, ?_⟩
        · rw [h2, pow7]
          have := split128 ((c % 128).toNat + 128 * v) n (2 ^ sh)
          rw [← this]
          rw [show ((((c % 128).toNat + 128 * v) % 128 : Nat) : Int) = c % 128 by omega, show ((((c % 128).toNat + 128 * v) / 128 : Nat) : Int) = (v : Int) by omega]
        · omega
        · rw [putF_big (by omega), drop_get hc, h4]
          rw [show ((((c % 128).toNat + 128 * v) % 128 + 128 : Nat) : Int) = c by omega, show ((c % 128).toNat + 128 * v) / 128 = v by omega]
          rfl
      · exact last _ n sh a c hc c1 h

theorem numR_back {b : List Int} (hb : Byt b) {most : Int} {r : Rd} (h : (numR b most r).2.code = 0) :
    r.code = 0 ∧ 0 ≤ (numR b most r).1 ∧ (numR b most r).1 ≤ most ∧ b.drop r.at_ = putI (numR b most r).1 ++ b.drop (numR b most r).2.at_ := by
  unfold numR at h ⊢
  split at h
  · rename_i h0
    rw [if_pos h0]
    obtain ⟨h1, v, h2, _, h4⟩ := numF_back hb.2 most r.at_ r.eat 4 0 0 r.at_ h
    have hv : (numF b most r.at_ r.eat 4 0 0 r.at_).1 = (v : Int) := by rw [h2]; simp
    refine ⟨h0, by omega, h1, ?_⟩
    rw [hv]
    exact h4
  · rename_i h0
    exact absurd h h0

theorem szG_back {b : List Int} (hb : Byt b) : ∀ (n : Nat) (acc : List Int) (r : Rd), (szG b n acc r).2.code = 0 →
    r.code = 0 ∧ ∃ xs : List Int, xs.length = n ∧ (szG b n acc r).1 = acc ++ xs ∧ (∀ x, x ∈ xs → 0 ≤ x ∧ x ≤ 4096) ∧ b.drop r.at_ = numsF xs ++ b.drop (szG b n acc r).2.at_
  | 0, acc, r, h => ⟨h, [], rfl, by simp [szG], fun x hx => (List.not_mem_nil hx).elim, by simp [szG, numsF]⟩
  | n + 1, acc, r, h => by
    rw [szG] at h ⊢
    split at h
    · rename_i h0
      rw [if_pos h0]
      obtain ⟨h1, xs, h2, h3, h4, h5⟩ := szG_back hb n _ _ h
      obtain ⟨g1, g2, g3, g4⟩ := numR_back hb h1
      refine ⟨h0, (numR b 4096 r).1 :: xs, by simp [h2], by rw [h3]; simp, ?_, ?_⟩
      · intro x hx
        rcases List.mem_cons.1 hx with rfl | hx
        · exact ⟨g2, g3⟩
        · exact h4 x hx
      · rw [numsF, List.append_assoc, ← h5, ← g4]
    · rename_i h0
      exact absurd h h0

theorem failR_bad {r : Rd} {c n : Int} (hc : c ≠ 0) : ¬ (failR r c n).code = 0 := by
  unfold failR
  split
  · exact hc
  · rename_i h; exact h
theorem rlG_back {b : List Int} (hb : Byt b) (size : Int) : ∀ (n : Nat) (last : Int) (acc : List Int) (r : Rd), (rlG b size n last acc r).2.code = 0 →
    r.code = 0 ∧ ∃ xs : List Int, xs.length = n ∧ (rlG b size n last acc r).1 = some (acc ++ xs) ∧ Ups size last xs ∧ b.drop r.at_ = gaps last xs ++ b.drop (rlG b size n last acc r).2.at_
  | 0, last, acc, r, h => ⟨h, [], rfl, by simp [rlG], trivial, by simp [rlG, gaps]⟩
  | n + 1, last, acc, r, h => by
    rw [rlG] at h ⊢
    split at h
    · rename_i h0
      rw [if_pos h0]
      split at h
      · exact absurd h (failR_bad (by decide))
      · rename_i h9
        rw [if_neg h9]
        obtain ⟨h1, xs, h2, h3, h4, h5⟩ := rlG_back hb size n _ _ _ h
        obtain ⟨g1, g2, g3, g4⟩ := numR_back hb h1
        refine ⟨h0, (last + ((numR b 4096 r).1 + 1)) :: xs, by simp [h2], by rw [h3]; simp, ⟨by omega, by omega, h4⟩, ?_⟩
        rw [gaps, List.append_assoc, ← h5, show last + ((numR b 4096 r).1 + 1) - last - 1 = (numR b 4096 r).1 by omega, ← g4]
    · rename_i h0
      exact absurd h h0
theorem lstR_back {b : List Int} (hb : Byt b) {size : Int} {r : Rd} (h : (lstR' b size r).2.code = 0) :
    r.code = 0 ∧ Ups size (-1) (lstR' b size r).1 ∧ b.drop r.at_ = listF (lstR' b size r).1 ++ b.drop (lstR' b size r).2.at_ := by
  unfold lstR' at h ⊢
  split at h
  · rename_i h0
    rw [if_pos h0]
    unfold lstR at h ⊢
    simp only at h ⊢
    obtain ⟨h1, xs, h2, h3, h4, h5⟩ := rlG_back hb size _ _ _ _ h
    obtain ⟨g1, g2, g3, g4⟩ := numR_back hb h1
    rw [h3]
    simp only [Option.getD_some, List.nil_append]
    refine ⟨h0, h4, ?_⟩
    rw [listF, List.append_assoc, ← h5, h2, show (((numR b size r).1.toNat : Nat) : Int) = (numR b size r).1 by omega, ← g4]
  · rename_i h0
    exact absurd h h0

theorem ups_lt {size : Int} : ∀ {last : Int} {xs : List Int}, Ups size last xs → ∀ (i j : Nat) (x y : Int), i < j → xs[i]? = some x → xs[j]? = some y → x < y
  | _, [], _, i, j, x, y, _, hx, _ => by simp at hx
  | last, z :: zs, ⟨h1, h2, h3⟩, i, j, x, y, hij, hx, hy => by
    cases j with
    | zero => omega
    | succ j =>
      have hy' : zs[j]? = some y := by simpa using hy
      cases i with
      | zero =>
        simp at hx
        subst hx
        exact (ups_mem h3 y (List.mem_of_getElem? hy')).1
      | succ i => exact ups_lt h3 i j x y (by omega) (by simpa using hx) hy'
theorem idxI_ups {size last : Int} {ps : List Int} (hu : Ups size last ps) {k : Nat} {y : Int} (hy : ps[k]? = some y) : idxI ps y = k := by
  unfold idxI
  cases h : findI (fun _ x => y == x) 0 ps with
  | none =>
    have := findI_none.1 h k y hy
    simp at this
  | some i =>
    obtain ⟨_, x, h1, h2, _⟩ := findI_some h
    simp at h1 h2
    subst h2
    simp only
    rcases Nat.lt_trichotomy i k with h | h | h
    · have := ups_lt hu i k _ _ h h1 hy; omega
    · rw [h]
    · have := ups_lt hu k i _ _ h hy h1; omega
theorem bsG_back {b : List Int} (hb : Byt b) {ps : List Int} {size last : Int} (hu : Ups size last ps) : ∀ (xs : List Int) (acc : List (Int × Int)) (r : Rd), (bsG b ps xs acc r).2.code = 0 →
    r.code = 0 ∧ ∃ ds : List (Int × Int), ds.map (·.1) = xs ∧ (bsG b ps xs acc r).1 = acc ++ ds ∧ (∀ d, d ∈ ds → ps.contains d.2 = true ∧ ps.contains d.1 = false) ∧ b.drop r.at_ = basesF ps ds ++ b.drop (bsG b ps xs acc r).2.at_
  | [], acc, r, h => ⟨h, [], rfl, by simp [bsG], fun x hx => (List.not_mem_nil hx).elim, by simp [bsG, basesF]⟩
  | x :: xs, acc, r, h => by
    rw [bsG] at h ⊢
    split at h
    · exact absurd h (failR_bad (by decide))
    · rename_i h9
      rw [if_neg h9]
      obtain ⟨h1, ds, h2, h3, h4, h5⟩ := bsG_back hb hu xs _ _ h
      obtain ⟨g1, g2, g3, g4⟩ := numR_back hb h1
      have hk : (numR b 4096 r).1.toNat < ps.length := by
        have : ¬ (ps.length : Int) ≤ (numR b 4096 r).1 := fun h => h9 (.inl h)
        omega
      obtain ⟨p, hp⟩ : ∃ p, ps[(numR b 4096 r).1.toNat]? = some p := ⟨_, List.getElem?_eq_getElem hk⟩
      have hgd : ps.getD (numR b 4096 r).1.toNat 0 = p := by simp [List.getD, hp]
      have hx : ps.contains x = false := by
        have : ¬ ps.contains x = true := fun h => h9 (.inr h)
        simpa only [Bool.not_eq_true] using this
      refine ⟨g1, (x, p) :: ds, by simp [h2], by rw [h3, hgd]; simp, ?_, ?_⟩
      · intro d hd
        rcases List.mem_cons.1 hd with rfl | hd
        · exact ⟨List.contains_iff_mem.2 (List.mem_of_getElem? hp), hx⟩
        · exact h4 d hd
      · rw [basesF, List.append_assoc, ← h5, idxI_ups hu hp, show (((numR b 4096 r).1.toNat : Nat) : Int) = (numR b 4096 r).1 by omega, ← g4]

theorem entN_back {b : List Int} (hb : Byt b) {last : Int} {r : Rd} (h : (entN b last r).2.code = 0) :
    r.code = 0 ∧ last < (entN b last r).1 ∧ (entN b last r).1 ≤ 1048576 ∧ b.drop r.at_ = putI ((entN b last r).1 - last - 1) ++ b.drop (entN b last r).2.at_ := by
  unfold entN at h ⊢
  simp only at h ⊢
  split at h
  · exact absurd h (failR_bad (by decide))
  · rename_i h9
    rw [if_neg h9]
    obtain ⟨g1, g2, g3, g4⟩ := numR_back hb h
    refine ⟨g1, by omega, by omega, ?_⟩
    rw [show last + ((numR b 1048576 r).1 + 1) - last - 1 = (numR b 1048576 r).1 by omega, ← g4]
theorem entB_back {b : List Int} (hb : Byt b) {size n f : Int} {r : Rd} (h : (entB b size n f r).2.code = 0) :
    r.code = 0 ∧ Ups size (-1) (entB b size n f r).1.ps ∧ Ups size (-1) ((entB b size n f r).1.ds.map (·.1)) ∧ (∀ d, d ∈ (entB b size n f r).1.ds → (entB b size n f r).1.ps.contains d.2 = true ∧ (entB b size n f r).1.ps.contains d.1 = false) ∧
      b.drop r.at_ = listF (entB b size n f r).1.ps ++ (listF ((entB b size n f r).1.ds.map (·.1)) ++ (basesF (entB b size n f r).1.ps (entB b size n f r).1.ds ++ b.drop (entB b size n f r).2.at_)) := by
  unfold entB at h ⊢
  simp only at h ⊢
  have hq : (lstR' b size (lstR' b size r).2).2.code = 0 := by
    generalize (lstR' b size (lstR' b size r).2).2 = r4 at h
    generalize (lstR' b size (lstR' b size r).2).1 = xs at h
    generalize (lstR' b size r).1 = ps at h
    cases xs with
    | nil => exact h
    | cons x xs =>
      rw [bsG] at h
      split at h
      · exact absurd h (failR_bad (by decide))
      · refine (numR_back hb (most := 4096) ?_).1
        revert h
        generalize (numR b 4096 r4).2 = r5
        generalize acc0 : ([] ++ [(x, ps.getD (numR b 4096 r4).1.toNat 0)] : List (Int × Int)) = acc
        clear acc0
        induction xs generalizing acc r5 with
        | nil => exact fun h => h
        | cons y ys ih =>
          intro h
          rw [bsG] at h
          split at h
          · exact absurd h (failR_bad (by decide))
          · exact (numR_back hb (ih _ _ h)).1
  obtain ⟨h1, h2, h3⟩ := lstR_back hb hq
  obtain ⟨g1, g2, g3⟩ := lstR_back hb h1
  obtain ⟨k1, ds, k2, k3, k4, k5⟩ := bsG_back hb g2 _ _ _ h
  simp only [List.nil_append] at k3
  rw [k3]
  refine ⟨g1, g2, ?_, k4, ?_⟩
  · rw [k2]; exact h2
  · rw [← k5, k2, ← h3, ← g3]

theorem entB_n (b : List Int) (size n f : Int) (r : Rd) : (entB b size n f r).1.n = n := rfl
theorem entB_f (b : List Int) (size n f : Int) (r : Rd) : (entB b size n f r).1.f = f := rfl
theorem enG_back {b : List Int} (hb : Byt b) (sizes : List Int) : ∀ (n : Nat) (last : Int) (acc : List Ent) (r : Rd), (enG b sizes n last acc r).2.code = 0 →
    r.code = 0 ∧ ∃ es : List Ent, es.length = n ∧ (enG b sizes n last acc r).1 = acc ++ es ∧ EntsI sizes last es ∧ b.drop r.at_ = entsF last es ++ b.drop (enG b sizes n last acc r).2.at_
  | 0, last, acc, r, h => ⟨h, [], rfl, by simp [enG], trivial, by simp [enG, entsF]⟩
  | n + 1, last, acc, r, h => by
    rw [enG] at h ⊢
    split at h
    · rename_i h0
      rw [if_pos h0]
      split at h
      · exact absurd h (failR_bad (by decide))
      · rename_i h9
        rw [if_neg h9]
        obtain ⟨h1, es, h2, h3, h4, h5⟩ := enG_back hb sizes n _ _ _ h
        obtain ⟨k1, k2, k3, k4, k5⟩ := entB_back hb h1
        obtain ⟨f1, f2, f3, f4⟩ := numR_back hb k1
        obtain ⟨n1, n2, n3, n4⟩ := entN_back hb f1
        refine ⟨h0, _ :: es, by simp [h2], by rw [h3]; simp, ⟨n2, n3, ⟨f2, ?_, k2, k3, k4⟩, h4⟩, ?_⟩
        · show (numR b 32 (entN b last r).2).1 < sizes.length
          omega
        · rw [entsF, entF]
          simp only [List.append_assoc]
          rw [entB_n, entB_f, ← h5, n4, f4, k5]
    · rename_i h0
      exact absurd h h0

/-- AND BACK. What is read may be, and was written in just that way. -/
theorem read_back {b : List Int} (hb : Byt b) (h : (readF b).2.1 = 0) : (checkF (readF b).1).1 = 0 ∧ bytesF (readF b).1 = b := by
  unfold readF at h ⊢
  simp only at h ⊢
  split at h
  · rename_i h0
    rw [if_pos h0]
    have h1 : (enG b (szG b (numR b 32 ⟨0, 0, 0⟩).1.toNat [] (numR b 32 ⟨0, 0, 0⟩).2).1 (numR b 1048576 (szG b (numR b 32 ⟨0, 0, 0⟩).1.toNat [] (numR b 32 ⟨0, 0, 0⟩).2).2).1.toNat 0 [] (numR b 1048576 (szG b (numR b 32 ⟨0, 0, 0⟩).1.toNat [] (numR b 32 ⟨0, 0, 0⟩).2).2).2).2.code = 0
      ∧ b.drop (enG b (szG b (numR b 32 ⟨0, 0, 0⟩).1.toNat [] (numR b 32 ⟨0, 0, 0⟩).2).1 (numR b 1048576 (szG b (numR b 32 ⟨0, 0, 0⟩).1.toNat [] (numR b 32 ⟨0, 0, 0⟩).2).2).1.toNat 0 [] (numR b 1048576 (szG b (numR b 32 ⟨0, 0, 0⟩).1.toNat [] (numR b 32 ⟨0, 0, 0⟩).2).2).2).2.at_ = [] := by
      generalize (enG b _ _ _ _ _).2 = r at h0 ⊢
      unfold endR at h0
      split at h0
      · cases h0
      · rename_i h9
        exact ⟨h0, List.drop_eq_nil_of_le (by omega)⟩
    obtain ⟨h2, es, e1, e2, e3, e4⟩ := enG_back hb _ _ _ _ _ h1.1
    obtain ⟨m1, m2, m3, m4⟩ := numR_back hb h2
    obtain ⟨s1, xs, x1, x2, x3, x4⟩ := szG_back hb _ _ _ m1
    obtain ⟨n1, n2, n3, n4⟩ := numR_back hb s1
    rw [h1.2] at e4
    simp only [List.nil_append] at x2 e2
    rw [x2] at e3
    have hn4 : b = putI (numR b 32 ⟨0, 0, 0⟩).1 ++ b.drop (numR b 32 ⟨0, 0, 0⟩).2.at_ := by simpa using n4
    rw [e2, x2]
    refine ⟨check_iff.2 ⟨by simp only; omega, x3, e3⟩, ?_⟩
    show putI xs.length ++ numsF xs ++ putI es.length ++ entsF 0 es = b
    rw [x1, e1, show (((numR b 32 ⟨0, 0, 0⟩).1.toNat : Nat) : Int) = (numR b 32 ⟨0, 0, 0⟩).1 by omega]
    generalize hz : (numR b 1048576 (szG b (numR b 32 ⟨0, 0, 0⟩).1.toNat [] (numR b 32 ⟨0, 0, 0⟩).2).2) = q at *
    rw [show ((q.1.toNat : Nat) : Int) = q.1 by omega]
    conv => rhs; rw [hn4]
    rw [x4, m4, e4]
    simp
  · rename_i h0
    exact absurd h h0
end Go.Proofs.Ytdkknhpdjcdmfaa.Abs

/- Maps, there and back: where what is wrong stands; how large what is read is. -/
set_option linter.unusedSimpArgs false
set_option linter.unusedVariables false
namespace Go.Proofs.Ytdkknhpdjcdmfaa.Abs
open Go Go.RowKit Go.Proofs

/-- Within bytes, and so is what is wrong. -/
structure Wth (b : List Int) (r : Rd) : Prop where
  at_ : r.at_ ≤ b.length
  eat : r.code ≠ 0 → 0 ≤ r.eat ∧ r.eat ≤ b.length
theorem numF_wth (b : List Int) (most : Int) (frm : Nat) (e : Int) : ∀ (left : Nat) (n : Int) (sh a : Nat), a ≤ b.length → (numF b most frm e left n sh a).2.at_ ≤ b.length ∧ ((numF b most frm e left n sh a).2.code ≠ 0 → (numF b most frm e left n sh a).2.eat = frm) := by
  intro left
  induction left with
  | zero =>
    intro n sh a ha
    unfold numF
    split
    · exact ⟨ha, fun _ => rfl⟩
    · rename_i c hc
      have h1 := (List.getElem?_eq_some_iff.1 hc).1
      split
      · exact ⟨h1, fun _ => rfl⟩
      · split
        · exact ⟨h1, fun _ => rfl⟩
        · split
          · exact ⟨h1, fun _ => rfl⟩
          · exact ⟨h1, fun h => absurd rfl h⟩
  | succ left ih =>
    intro n sh a ha
    unfold numF
    split
    · exact ⟨ha, fun _ => rfl⟩
    · rename_i c hc
      have h1 := (List.getElem?_eq_some_iff.1 hc).1
      split
      · exact ih _ _ _ h1
      · split
        · exact ⟨h1, fun _ => rfl⟩
        · split
          · exact ⟨h1, fun _ => rfl⟩
          · exact ⟨h1, fun h => absurd rfl h⟩
theorem numR_wth {b : List Int} {most : Int} {r : Rd} (h : Wth b r) : Wth b (numR b most r).2 := by
  unfold numR
  split
  · obtain ⟨h1, h2⟩ := numF_wth b most r.at_ r.eat 4 0 0 r.at_ h.at_
    exact ⟨h1, fun hc => by rw [h2 hc]; have := h.at_; omega⟩
  · exact h
theorem failR_wth {b : List Int} {c n : Int} {r : Rd} (h : Wth b r) (h0 : 0 ≤ n) (hn : n ≤ b.length) : Wth b (failR r c n) := by
  unfold failR
  split
  · exact ⟨h.at_, fun _ => ⟨h0, hn⟩⟩
  · exact h
theorem failR_wth' {b : List Int} {c : Int} {r s : Rd} (h : Wth b r) (hs : Wth b s) : Wth b (failR r c (s.at_ : Nat)) := failR_wth h (by omega) (by have := hs.at_; omega)
theorem szG_wth {b : List Int} : ∀ (n : Nat) (acc : List Int) (r : Rd), Wth b r → Wth b (szG b n acc r).2
  | 0, acc, r, h => by rw [szG]; exact h
  | n + 1, acc, r, h => by
    rw [szG]
    split
    · exact szG_wth n _ _ (numR_wth h)
    · exact h
theorem rlG_wth {b : List Int} {size : Int} : ∀ (n : Nat) (last : Int) (acc : List Int) (r : Rd), Wth b r → Wth b (rlG b size n last acc r).2
  | 0, last, acc, r, h => by rw [rlG]; exact h
  | n + 1, last, acc, r, h => by
    rw [rlG]
    split
    · split
      · exact failR_wth' (numR_wth h) h
      · exact rlG_wth n _ _ _ (numR_wth h)
    · exact h
theorem lstR_wth {b : List Int} {size : Int} {r : Rd} (h : Wth b r) : Wth b (lstR' b size r).2 := by
  unfold lstR'
  split
  · exact rlG_wth _ _ _ _ (numR_wth h)
  · exact h
theorem bsG_wth {b ps : List Int} : ∀ (xs : List Int) (acc : List (Int × Int)) (r : Rd), Wth b r → Wth b (bsG b ps xs acc r).2
  | [], acc, r, h => by rw [bsG]; exact h
  | x :: xs, acc, r, h => by
    rw [bsG]
    split
    · exact failR_wth' (numR_wth h) h
    · exact bsG_wth xs _ _ (numR_wth h)
theorem entN_wth {b : List Int} {last : Int} {r : Rd} (h : Wth b r) : Wth b (entN b last r).2 := by
  unfold entN
  simp only
  split
  · exact failR_wth' (numR_wth h) h
  · exact numR_wth h
theorem entB_wth {b : List Int} {size n f : Int} {r : Rd} (h : Wth b r) : Wth b (entB b size n f r).2 := bsG_wth _ _ _ (lstR_wth (lstR_wth h))
theorem enG_wth {b sizes : List Int} : ∀ (n : Nat) (last : Int) (acc : List Ent) (r : Rd), Wth b r → Wth b (enG b sizes n last acc r).2
  | 0, last, acc, r, h => by rw [enG]; exact h
  | n + 1, last, acc, r, h => by
    rw [enG]
    split
    · split
      · exact failR_wth' (numR_wth (entN_wth h)) (entN_wth h)
      · exact enG_wth n _ _ _ (entB_wth (numR_wth (entN_wth h)))
    · exact h
theorem endR_wth {b : List Int} {r : Rd} (h : Wth b r) : Wth b (endR b r) := by
  unfold endR
  split
  · exact ⟨h.at_, fun _ => ⟨by simp only; omega, by have := h.at_; simp only; omega⟩⟩
  · exact h
theorem read_within {b : List Int} (h : (readF b).2.1 ≠ 0) : 0 ≤ (readF b).2.2 ∧ (readF b).2.2 ≤ b.length := by
  have h0 : Wth b ⟨0, 0, 0⟩ := ⟨Nat.zero_le _, fun h => absurd rfl h⟩
  have key := endR_wth (enG_wth (sizes := (szG b (numR b 32 ⟨0, 0, 0⟩).1.toNat [] (numR b 32 ⟨0, 0, 0⟩).2).1) (numR b 1048576 (szG b (numR b 32 ⟨0, 0, 0⟩).1.toNat [] (numR b 32 ⟨0, 0, 0⟩).2).2).1.toNat 0 [] _ (numR_wth (most := 1048576) (szG_wth (numR b 32 ⟨0, 0, 0⟩).1.toNat [] _ (numR_wth (most := 32) h0))))
  unfold readF at h ⊢
  simp only at h ⊢
  split at h
  · exact absurd rfl h
  · rename_i h9
    rw [if_neg h9]
    exact key.eat h9

/-! How large maps are that may be. -/
theorem putI_pos (n : Int) : 0 < (putI n).length := putF_pos _
theorem entsF_len : ∀ (last : Int) (es : List Ent), es.length ≤ (entsF last es).length
  | _, [] => Nat.le_refl _
  | last, e :: es => by
    have h1 := entsF_len e.n es
    have h2 := putI_pos e.f
    simp only [entsF, entF, List.length_append, List.length_cons]
    omega
theorem bytesF_len (m : Mps) : m.es.length ≤ (bytesF m).length := by
  have h1 := entsF_len 0 m.es
  simp only [bytesF, List.length_append]
  omega
theorem entsI_mem {sizes : List Int} : ∀ {last : Int} {es : List Ent}, EntsI sizes last es → ∀ e, e ∈ es → EntI sizes e
  | _, [], _, _, he => (List.not_mem_nil he).elim
  | last, x :: xs, ⟨_, _, h3, h4⟩, e, he => by
    rcases List.mem_cons.1 he with rfl | he
    · exact h3
    · exact entsI_mem h4 e he
theorem entI_len {sizes : List Int} (hs : ∀ n, n ∈ sizes → 0 ≤ n ∧ n ≤ 4096) {e : Ent} (h : EntI sizes e) : e.ps.length ≤ 4096 ∧ e.ds.length ≤ 4096 := by
  have hz := size_of hs e.f.toNat
  have h1 := ups_len (by omega) h.ps
  have h2 := ups_len (by omega) h.ds
  simp only [List.length_map] at h2
  omega
theorem goodE_of {sizes : List Int} (hl : sizes.length ≤ 32) (hs : ∀ n, n ∈ sizes → 0 ≤ n ∧ n ≤ 4096) : ∀ {last : Int} {es : List Ent}, EntsI sizes last es → GoodE last es
  | _, [], _ => trivial
  | last, e :: es, ⟨h1, h2, h3, h4⟩ => by
    have hz := size_of hs e.f.toNat
    have hn := entI_len hs h3
    refine ⟨⟨⟨h1, h2⟩, ⟨h3.f0, by have := h3.f1; omega⟩, ups_up (by omega) h3.ps, ups_up (by omega) h3.ds, fun d hd => idxI_of (h3.bs d hd).1, by omega, by omega⟩, goodE_of hl hs h4⟩
theorem good_of {m : Mps} (hc : (checkF m).1 = 0) (hn : m.es.length ≤ 100000) : m.Good := by
  obtain ⟨h1, h2, h3⟩ := check_iff.1 hc
  exact ⟨by omega, fun n hn => by have := h2 n hn; omega, hn, goodE_of h1 h2 h3⟩
theorem ok_of {m : Mps} (hc : (checkF m).1 = 0) (hn : m.es.length ≤ 100000) : m.Ok := by
  obtain ⟨h1, h2, h3⟩ := check_iff.1 hc
  refine ⟨by show m.sizes.length ≤ _; omega, by show m.es.length ≤ _; omega, fun e he => ?_⟩
  have := entI_len h2 (entsI_mem h3 e he)
  exact ⟨by show e.ps.length ≤ _; omega, by show e.ds.length ≤ _; omega⟩
theorem weigh_len : ∀ (es : List Ent) (n : Int), weigh 200 es n ≤ 200 → n + es.length ≤ 200
  | [], n, h => by simpa [weigh] using h
  | e :: es, n, h => by
    rw [weigh] at h
    split at h
    · have := weigh_len es _ h
      simp only [List.length_cons]
      omega
    · omega
theorem u8s_bytes (b : List Int) (h : ∀ c, c ∈ b → 0 ≤ c ∧ c < 256) (hf : Fit b) : Byt b := ⟨hf, h⟩
end Go.Proofs.Ytdkknhpdjcdmfaa.Abs

/- Maps out of bytes: the loop over entries. -/
set_option linter.unusedSimpArgs false
set_option linter.unusedVariables false
namespace Go.Proofs.Ytdkknhpdjcdmfaa.Abs
open Go Go.RowKit Go.Proofs

theorem rlG_len (b : List Int) (size : Int) : ∀ (n : Nat) (last : Int) (acc : List Int) (r : Rd), ((rlG b size n last acc r).1.getD []).length ≤ acc.length + n
  | 0, last, acc, r => by simp [rlG]
  | n + 1, last, acc, r => by
    rw [rlG]
    split
    · split
      · simp
      · have := rlG_len b size n (last + ((numR b 4096 r).1 + 1)) (acc ++ [last + ((numR b 4096 r).1 + 1)]) (numR b 4096 r).2
        simp only [List.length_append, List.length_cons, List.length_nil] at this
        omega
    · simp
theorem lstR_len {b : List Int} (hb : Byt b) {size : Int} (h0 : 0 ≤ size) (hs : size ≤ 4096) (r : Rd) : (lstR' b size r).1.length ≤ 4096 := by
  unfold lstR'
  split
  · have h1 := rlG_len b size (numR b size r).1.toNat (-1) [] (numR b size r).2
    have h2 := numR_le hb h0 r
    simp only [List.length_nil] at h1
    unfold lstR
    simp only
    omega
  · simp
theorem bsG_fst (b ps : List Int) : ∀ (xs : List Int) (acc : List (Int × Int)) (r : Rd), (bsG b ps xs acc r).1.map (·.1) = acc.map (·.1) ++ xs
  | [], acc, r => by simp [bsG]
  | x :: xs, acc, r => by
    rw [bsG]
    split
    · simp [Function.comp_def]
    · rw [bsG_fst b ps xs]
      simp

/-- The loop's end. -/
def Fin (h : Heap) (b : List Int) (n6 : Nat) (sizes : List Int) (t : List Ent × Rd) (st : St) : Prop :=
  (∃ n8 last es o, (o = none → es = []) ∧ allE es o = t.1 ∧ st = roS h b n6 sizes n8 last es o t.2) ∨ (∃ n f n8 last o, ¬ t.2.code = 0 ∧ st = brK h b t.2 sizes t.1 n f n6 n8 last o)

theorem ro_loop (h : Heap) (b : List Int) (hb : Byt b) (n6 : Nat) (sizes : List Int) (hs : ∀ s, s ∈ sizes → 0 ≤ s ∧ s ≤ 4096) (n8 : Nat) (hn : n8 ≤ 1048576) (r : Rd) :
    ∃ st, lpK 27 Try.f27 197 1 h (roS h b n6 sizes n8 0 [] none r) = some (.exit 2, st) ∧ Fin h b n6 sizes (enG b sizes n8 0 [] r) st := by
  have key := loop_rel (P := Try.prog) (C := cfg) (sc := runScope Try.prog cfg 197 h.length (cfg.live 27) 0) (N := 197) (n0 := h.length) (K := cfg.live 27) (c := loopAt Try.f27 1)
    (fun s : Nat × Int × List Ent × Option (Ent × Nat) × Rd => roS h b n6 sizes s.1 s.2.1 s.2.2.1 s.2.2.2.1 s.2.2.2.2)
    (fun s => s.1 ≤ 1048576 ∧ 0 ≤ s.2.1 ∧ s.2.1 + 1048577 * (s.1 : Int) ≤ 1099512676352 ∧ (s.2.2.2.1 = none → s.2.2.1 = []) ∧ (allE s.2.2.1 s.2.2.2.1).length + s.1 ≤ 1048577) (fun s => s.1)
    (fun s w => ∃ st, w = (.exit 2, st) ∧ Fin h b n6 sizes (enG b sizes s.1 s.2.1 (allE s.2.2.1 s.2.2.2.1) s.2.2.2.2) st) ?_ (n8, 0, [], none, r) ⟨hn, by simp, by simp only; omega, fun _ => rfl, by simp [allE]; omega⟩
  · obtain ⟨w, h1, st, rfl, h2⟩ := key
    exact ⟨st, h1, h2⟩
  rintro ⟨n, last, es, o, a, c, ea⟩ ⟨j1, j2, j3, j4, j5⟩
  simp only at j1 j2 j3 j4 j5 ⊢
  cases n with
  | zero => exact .inr ⟨_, ro_out h b hb n6 sizes 0 last es o ⟨a, c, ea⟩ (.inl rfl), nofun, _, rfl, .inl ⟨0, last, es, o, j4, rfl, rfl⟩⟩
  | succ n =>
    by_cases hc : c = 0
    · subst hc
      have x4 := numR_le hb (show (0 : Int) ≤ 1048576 by omega) ⟨a, 0, ea⟩
      rcases hX : numR b 1048576 ⟨a, 0, ea⟩ with ⟨x, a1, k1, e1⟩
      rcases hR : (if 1048576 < last + (x + 1) then failR ⟨a1, k1, e1⟩ 18 (a : Nat) else ⟨a1, k1, e1⟩ : Rd) with ⟨a2, k2, e2⟩
      have f4 := numR_le hb (show (0 : Int) ≤ 32 by omega) ⟨a2, k2, e2⟩
      rcases hF : numR b 32 ⟨a2, k2, e2⟩ with ⟨f, a3, k3, e3⟩
      rw [hX] at x4
      rw [hF] at f4
      simp only at x4 f4
      have hN : entN b last ⟨a, 0, ea⟩ = (last + (x + 1), ⟨a2, k2, e2⟩) := by
        rw [entN, hX]
        simp only
        rw [hR]
      by_cases hlt : (sizes.length : Int) ≤ f
      · have hE : enG b sizes (n + 1) last (allE es o) ⟨a, 0, ea⟩ = (allE es o, failR ⟨a3, k3, e3⟩ 12 (a2 : Nat)) := by
          rw [enG, if_pos rfl, hN]
          simp only
          rw [hF]
          simp only
          rw [if_pos hlt]
        rw [hE]
        have hl : es.length ≤ 2097152 := by
          cases o with
          | none => rw [j4 rfl]; simp
          | some p => simp [allE] at j5; omega
        exact .inr ⟨_, ro_break h b hb n6 sizes n (by omega) last j2 (by omega) es o j4 hl a a1 a2 a3 ea k1 e1 k2 e2 k3 e3 x f hX hR hF hlt, nofun, _, rfl, .inr ⟨_, _, _, _, o, failR_bad (by decide), rfl⟩⟩
      · have hfl : f.toNat < sizes.length := by omega
        obtain ⟨s, hS⟩ : ∃ s, sizes[f.toNat]? = some s := ⟨_, List.getElem?_eq_getElem hfl⟩
        have s4 := hs s (List.mem_of_getElem? hS)
        have hp4 := lstR_len hb s4.1 s4.2 ⟨a3, k3, e3⟩
        rcases hP : lstR' b s ⟨a3, k3, e3⟩ with ⟨ps, a4, k4, e4⟩
        have hx4 := lstR_len hb s4.1 s4.2 ⟨a4, k4, e4⟩
        rcases hD : lstR' b s ⟨a4, k4, e4⟩ with ⟨xs, a5, k5, e5⟩
        have hd4 := bsG_fst b ps xs [] ⟨a5, k5, e5⟩
        rcases hB : bsG b ps xs [] ⟨a5, k5, e5⟩ with ⟨ds, a6, k6, e6⟩
        rw [hP] at hp4
        rw [hD] at hx4
        rw [hB] at hd4
        simp only [List.map_nil, List.nil_append] at hp4 hx4 hd4
        have hgd : sizes.getD f.toNat 0 = s := by simp [List.getD, hS]
        have hEB : entB b (sizes.getD f.toNat 0) (last + (x + 1)) f ⟨a3, k3, e3⟩ = (⟨last + (x + 1), f, ps, ds⟩, ⟨a6, k6, e6⟩) := by
          rw [entB, hgd, hP]
          simp only
          rw [hD]
          simp only
          rw [hB]
        have hE : enG b sizes (n + 1) last (allE es o) ⟨a, 0, ea⟩ = enG b sizes n (last + (x + 1)) (allE es o ++ [⟨last + (x + 1), f, ps, ds⟩]) ⟨a6, k6, e6⟩ := by
          rw [enG, if_pos rfl, hN]
          simp only
          rw [hF]
          simp only
          rw [if_neg hlt, hEB]
        rw [hE]
        cases o with
        | none =>
          obtain rfl := j4 rfl
          obtain ⟨i, g⟩ := ro_first h b hb n6 sizes hs n (by omega) last j2 (by omega) a a1 a2 a3 a4 a5 a6 ea k1 e1 k2 e2 k3 e3 k4 e4 k5 e5 k6 e6 x f hX hR hF hlt s hS ps xs ds hP hD hB hp4 hx4 hd4
          refine .inl ⟨(n, last + (x + 1), [], some (⟨last + (x + 1), f, ps, ds⟩, i), ⟨a6, k6, e6⟩), g, ⟨by omega, by simp only; omega, by simp only; omega, nofun, by simp [allE] at j5 ⊢; omega⟩, by simp, fun w hw => hw⟩
        | some p =>
          obtain ⟨e, j⟩ := p
          simp only [allE, List.length_append, List.length_cons, List.length_nil] at j5
          obtain ⟨i, g⟩ := ro_more h b hb n6 sizes hs n (by omega) last j2 (by omega) es e j (by omega) a a1 a2 a3 a4 a5 a6 ea k1 e1 k2 e2 k3 e3 k4 e4 k5 e5 k6 e6 x f hX hR hF hlt s hS ps xs ds hP hD hB hp4 hx4 hd4
          refine .inl ⟨(n, last + (x + 1), es ++ [e], some (⟨last + (x + 1), f, ps, ds⟩, i), ⟨a6, k6, e6⟩), g, ⟨by omega, by simp only; omega, by simp only; omega, nofun, by simp only [allE, List.length_append, List.length_cons, List.length_nil]; omega⟩, by simp, fun w hw => hw⟩
    · have hE : enG b sizes (n + 1) last (allE es o) ⟨a, c, ea⟩ = (allE es o, ⟨a, c, ea⟩) := by rw [enG, if_neg hc]
      rw [hE]
      exact .inr ⟨_, ro_out h b hb n6 sizes (n + 1) last es o ⟨a, c, ea⟩ (.inr hc), nofun, _, rfl, .inl ⟨n + 1, last, es, o, j4, rfl, rfl⟩⟩
end Go.Proofs.Ytdkknhpdjcdmfaa.Abs

/- Maps out of bytes: all of it. -/
set_option linter.unusedSimpArgs false
set_option linter.unusedVariables false
namespace Go.Proofs.Ytdkknhpdjcdmfaa.Abs
open Go Go.RowKit Go.Proofs

theorem szG_range {b : List Int} (hb : Byt b) : ∀ (n : Nat) (acc : List Int) (r : Rd), (∀ x, x ∈ acc → 0 ≤ x ∧ x ≤ 4096) → ∀ x, x ∈ (szG b n acc r).1 → 0 ≤ x ∧ x ≤ 4096
  | 0, acc, r, h => by rw [szG]; exact h
  | n + 1, acc, r, h => by
    rw [szG]
    split
    · refine szG_range hb n _ _ fun x hx => ?_
      rcases List.mem_append.1 hx with hx | hx
      · exact h x hx
      · have := numR_le hb (show (0 : Int) ≤ 4096 by omega) r
        simp at hx
        subst hx
        exact this
    · exact h

theorem fzL_int {h : Heap} {n0 : Nat} {L : List (Option Nat)} (k : Nat) (a : IntKind) (n : Int) : fzL h n0 L (k + 1) (.int a n) = some (.int a n) := rfl
theorem fzL_isl {h : Heap} {n0 : Nat} {L : List (Option Nat)} (k : Nat) (es : List (List Leaf)) : fzL h n0 L (k + 1) (.isl es) = some (.isl es) := rfl
/-- Rows of which the last one alone leads into objects. -/
theorem fzRowsL_app {h : Heap} {n0 : Nat} {L : List (Option Nat)} (k : Nat) (a : List (List Leaf)) (c : List Leaf) (ha : treeR a = true) : fzRowsL h n0 L k (a ++ [c]) false = appO (some a) (consO (mapO (fzL h n0 L (k + 1)) c) (some [])) := by
  simp only [fzRowsL, mapO_append, mapL2_plain ha, mapO_cons, mapO_nil]

theorem read (h : Heap) (b : List Int) (hb : Byt b) : CX 27 [Sl (u8sOf b)] h = some (.tup [.agg (encMps (readF b).1), .agg [.int .i64 (readF b).2.1, .int .i64 (readF b).2.2]], h, []) := by
  refine CI_of Try.func27 rfl 0 ?_
  have hkp : cfg.keep 27 = 0 := rfl
  have d := dt27
  simp [Try.f27, infoFn, infoRegs, List.lookup] at d
  have hf := hb.1
  have x4 := numR_le hb (show (0 : Int) ≤ 32 by omega) ⟨0, 0, 0⟩
  rcases hN : numR b 32 ⟨0, 0, 0⟩ with ⟨n, a1, k1, e1⟩
  have z4 := szG_range hb n.toNat [] ⟨a1, k1, e1⟩ (fun x hx => (List.not_mem_nil hx).elim)
  rcases hZ : szG b n.toNat [] ⟨a1, k1, e1⟩ with ⟨sizes, a2, k2, e2⟩
  have m4 := numR_le hb (show (0 : Int) ≤ 1048576 by omega) ⟨a2, k2, e2⟩
  rcases hM : numR b 1048576 ⟨a2, k2, e2⟩ with ⟨k, a3, k3, e3⟩
  rw [hN] at x4
  rw [hZ] at z4
  rw [hM] at m4
  simp only at x4 z4 m4
  have hmn : max n 0 = n := by omega
  have hmk : max k 0 = k := by omega
  obtain ⟨n', g1⟩ := rs_loop h b hb n.toNat (by omega) ⟨a1, k1, e1⟩
  rw [hZ] at g1
  obtain ⟨st, g2, g3⟩ := ro_loop h b hb n' sizes z4 k.toNat (by omega) ⟨a3, k3, e3⟩
  rcases hE : enG b sizes k.toNat 0 [] ⟨a3, k3, e3⟩ with ⟨es, a4, k4, e4⟩
  rw [hE] at g3
  simp [rsS, rdRow, lpK, lv27, Try.f27, hmn] at g1
  have hR : readF b = if (endR b ⟨a4, k4, e4⟩).code = 0 then (⟨sizes, es⟩, 0, 0) else (⟨[], []⟩, (endR b ⟨a4, k4, e4⟩).code, (endR b ⟨a4, k4, e4⟩).eat) := by
    unfold readF
    simp only [hN, hZ, hM, hE]
  rw [hR]
  rcases g3 with ⟨n8, last, es', o, ho, ha, rfl⟩ | ⟨n0, f0, n8, last, o, hc, rfl⟩
  · simp only at ha
    cases o with
    | none =>
      obtain rfl := ho rfl
      simp only [allE] at ha
      subst ha
      simp [roS, rdRow, lpK, lv27, Try.f27, hmk] at g2
      by_cases c1 : k4 = 0
      · by_cases c2 : a4 < b.length
        · simp (disch := (first | omega | simp (disch := omega) [rdRow, hb])) [Try.f27, lv27, hkp, rdRow, hN, hZ, hM, g1, g2, c1, c2, endR, failR, number_any, fail_any, encMps, d, unOK, apartR, disjoint, cellsApart, Nat.add_assoc, -getElem?_pos]
        · simp (disch := (first | omega | simp (disch := omega) [rdRow, hb])) [Try.f27, lv27, hkp, rdRow, hN, hZ, hM, g1, g2, c1, c2, endR, failR, number_any, fail_any, encMps, d, unOK, apartR, disjoint, cellsApart, Nat.add_assoc, -getElem?_pos]
      · have c1b : (k4 == 0) = false := by simpa using c1
        have c1n : (k4 != 0) = true := by simpa using c1
        simp (disch := (first | omega | simp (disch := omega) [rdRow, hb])) [Try.f27, lv27, hkp, rdRow, hN, hZ, hM, g1, g2, c1, c1b, c1n, endR, failR, number_any, fail_any, encMps, d, unOK, apartR, disjoint, cellsApart, Nat.add_assoc, -getElem?_pos]
    | some p =>
      obtain ⟨e, j⟩ := p
      simp only [allE] at ha
      subst ha
      simp [roS, reG, lastRow, rdRow, lpK, lv27, Try.f27, hmk] at g2
      by_cases c1 : k4 = 0
      · by_cases c2 : a4 < b.length
        · simp (disch := (first | omega | simp (disch := omega) [rdRow, hb])) [Try.f27, lv27, hkp, rdRow, hN, hZ, hM, g1, g2, c1, c2, endR, failR, number_any, fail_any, encMps, entsOf_snoc, encEnt, fzRowsL_app, fzL_int, fzL_isl, d, unOK, apartR, disjoint, cellsApart, Nat.add_assoc, -getElem?_pos]
        · simp (disch := (first | omega | simp (disch := omega) [rdRow, hb])) [Try.f27, lv27, hkp, rdRow, hN, hZ, hM, g1, g2, c1, c2, endR, failR, number_any, fail_any, encMps, entsOf_snoc, encEnt, fzRowsL_app, fzL_int, fzL_isl, d, unOK, apartR, disjoint, cellsApart, Nat.add_assoc, -getElem?_pos]
      · have c1b : (k4 == 0) = false := by simpa using c1
        have c1n : (k4 != 0) = true := by simpa using c1
        simp (disch := (first | omega | simp (disch := omega) [rdRow, hb])) [Try.f27, lv27, hkp, rdRow, hN, hZ, hM, g1, g2, c1, c1b, c1n, endR, failR, number_any, fail_any, encMps, entsOf_snoc, encEnt, fzRowsL_app, fzL_int, fzL_isl, d, unOK, apartR, disjoint, cellsApart, Nat.add_assoc, -getElem?_pos]
  · have c1b : (k4 == 0) = false := by simpa using hc
    have c1n : (k4 != 0) = true := by simpa using hc
    simp only at hc
    simp [roS, brK, brS, rdRow, lpK, lv27, Try.f27, hmk] at g2
    simp (disch := (first | omega | simp (disch := omega) [rdRow, hb])) [Try.f27, lv27, hkp, rdRow, hN, hZ, hM, g1, g2, hc, c1b, c1n, endR, failR, number_any, fail_any, encMps, entsOf_snoc, encEnt, fzRowsL_app, fzL_int, fzL_isl, d, unOK, apartR, disjoint, cellsApart, Nat.add_assoc, -getElem?_pos]
end Go.Proofs.Ytdkknhpdjcdmfaa.Abs

/- Maps: whether two are the same, of one and itself. -/
set_option linter.unusedSimpArgs false
set_option linter.unusedVariables false
namespace Go.Proofs.Ytdkknhpdjcdmfaa.Abs
open Go Go.RowKit Go.Proofs

def sameS (h : Heap) (m : Mps) (i : Nat) : St := ⟨[(2, .one (.ptr h.length 1 0 0)), (3, .one (.ptr (h.length + 1) 1 0 0)), (5, I (i : Nat)), (4, Bo false)], h ++ [some (.row 2 [encMps m]), some (.row 2 [encMps m])], []⟩
theorem same_loop (h : Heap) (m : Mps) (hm : m.Ok) : lpK 29 Try.f29 40 0 h (sameS h m 0) = some (.exit 0, sameS h m m.es.length) := by
  have q := qt29
  simp [Try.f29, quietFn, quietRegs] at q
  have he := hm.es
  have key := loop_search (P := Try.prog) (C := cfg) (sc := runScope Try.prog cfg 40 h.length (cfg.live 29) 0) (N := 40) (n0 := h.length) (K := cfg.live 29) (c := loopAt Try.f29 0) m.es (fun _ _ => false) (sameS h m) (fun i => (.ret, sameS h m i)) (.exit 0, sameS h m m.es.length) ?_ ?_ ?_
  · have hn : findI (fun _ _ => false) 0 m.es = none := findI_none.2 fun _ _ _ => rfl
    rw [hn] at key
    exact key
  · intro i x hx hi _ _
    have e6 := sameEnt [] x (hm.each x (List.mem_of_getElem? hx))
    have e7 := fun h => sameEnt h x (hm.each x (List.mem_of_getElem? hx))
    simp [encEnt] at e6 e7
    simp (disch := omega) [round_eq, sameS, encMps, encEnt, Try.f29, lv29, hx, hi, wrap_i64, q, e6, e7, -getElem?_pos]
  · intro i x _ _ hp
    cases hp
  · intro _
    simp (disch := omega) [round_eq, sameS, encMps, Try.f29, lv29]
theorem same (h : Heap) (m : Mps) (hm : m.Ok) : CX 29 [.agg (encMps m), .agg (encMps m)] h = some (Bo true, h, []) := by
  refine CI_of Try.func29 rfl 0 ?_
  have hk : cfg.keep 29 = 0 := rfl
  have q := qt29
  simp [Try.f29, quietFn, quietRegs] at q
  have h1 := hm.sizes
  have e := same_loop h m hm
  simp [sameS, encMps, lpK, lv29, Try.f29] at e
  simp (disch := omega) [Try.f29, lv29, hk, q, encMps, ints _ _ _ h1, e]
end Go.Proofs.Ytdkknhpdjcdmfaa.Abs

/- The law of maps, there and back. -/
set_option linter.unusedSimpArgs false
set_option linter.unusedVariables false
namespace Go.Proofs.Ytdkknhpdjcdmfaa.Abs
open Go Go.RowKit Go.Proofs

/-! What is written is bytes, not too many. -/
theorem putF_byte : ∀ (n : Nat) (c : Int), c ∈ putF n → 0 ≤ c ∧ c < 256 := by
  intro n
  induction n using Nat.strongRecOn with
  | _ n ih =>
    intro c hc
    by_cases h : 128 ≤ n
    · rw [putF_big h] at hc
      rcases List.mem_cons.1 hc with rfl | hc
      · omega
      · exact ih (n / 128) (by omega) c hc
    · rw [putF_small (by omega)] at hc
      simp at hc
      omega
theorem putI_byte (n c : Int) (h : c ∈ putI n) : 0 ≤ c ∧ c < 256 := putF_byte _ _ h
theorem numsF_byte : ∀ (xs : List Int) (c : Int), c ∈ numsF xs → 0 ≤ c ∧ c < 256
  | [], c, h => (List.not_mem_nil h).elim
  | x :: xs, c, h => by
    rw [numsF] at h
    rcases List.mem_append.1 h with h | h
    · exact putI_byte _ _ h
    · exact numsF_byte xs c h
theorem gaps_byte : ∀ (last : Int) (xs : List Int) (c : Int), c ∈ gaps last xs → 0 ≤ c ∧ c < 256
  | _, [], c, h => (List.not_mem_nil h).elim
  | last, x :: xs, c, h => by
    rw [gaps] at h
    rcases List.mem_append.1 h with h | h
    · exact putI_byte _ _ h
    · exact gaps_byte x xs c h
theorem listF_byte (xs : List Int) (c : Int) (h : c ∈ listF xs) : 0 ≤ c ∧ c < 256 := by
  rw [listF] at h
  rcases List.mem_append.1 h with h | h
  · exact putI_byte _ _ h
  · exact gaps_byte _ _ c h
theorem basesF_byte (ps : List Int) : ∀ (ds : List (Int × Int)) (c : Int), c ∈ basesF ps ds → 0 ≤ c ∧ c < 256
  | [], c, h => (List.not_mem_nil h).elim
  | d :: ds, c, h => by
    rw [basesF] at h
    rcases List.mem_append.1 h with h | h
    · exact putI_byte _ _ h
    · exact basesF_byte ps ds c h
theorem entsF_byte : ∀ (last : Int) (es : List Ent) (c : Int), c ∈ entsF last es → 0 ≤ c ∧ c < 256
  | _, [], c, h => (List.not_mem_nil h).elim
  | last, e :: es, c, h => by
    rw [entsF, entF] at h
    simp only [List.mem_append] at h
    rcases h with ((((h | h) | h) | h) | h) | h
    · exact putI_byte _ _ h
    · exact putI_byte _ _ h
    · exact listF_byte _ _ h
    · exact listF_byte _ _ h
    · exact basesF_byte _ _ c h
    · exact entsF_byte _ es c h
theorem entsF_le : ∀ {last : Int} {es : List Ent}, 0 ≤ last → GoodE last es → (entsF last es).length ≤ 30000000 * es.length
  | _, [], _, _ => Nat.le_refl _
  | last, e :: es, h0, ⟨h1, h2⟩ => by
    have g1 := entF_le h0 h1
    have g2 := entsF_le (by have := h1.n; omega) h2
    simp only [entsF, List.length_append, List.length_cons]
    omega
theorem bytesF_byt {m : Mps} (hg : m.Good) : Byt (bytesF m) := by
  refine ⟨?_, fun c hc => ?_⟩
  · have h1 := nums_le m.sizes hg.sizes
    have h2 := entsF_le (by omega) hg.es
    have h3 := hg.sl
    have h4 := hg.el
    have p1 : (putI (m.sizes.length : Nat)).length ≤ 9 := putI_le9 (by omega)
    have p2 : (putI (m.es.length : Nat)).length ≤ 9 := putI_le9 (by omega)
    show (bytesF m).length ≤ _
    simp only [bytesF, List.length_append]
    omega
  · rw [bytesF] at hc
    simp only [List.mem_append] at hc
    rcases hc with ((h | h) | h) | h
    · exact putI_byte _ _ h
    · exact numsF_byte _ _ h
    · exact putI_byte _ _ h
    · exact entsF_byte _ _ _ h

def strOf (b : List Int) : List UInt8 := b.map fun n => UInt8.ofNat n.toNat
theorem bytesOf_u8s : ∀ b : List Int, bytesOf (u8sOf b) = some (strOf b)
  | [] => rfl
  | n :: b => by
    show (bytesOf (u8sOf b)).map _ = _
    rw [bytesOf_u8s b]
    rfl
theorem conv_u8s {P : Program} {h : Heap} (s d : TypeId) (b : List Int) : convertV P h s d (Sl (u8sOf b)) = match P.underlying s, P.underlying d with
    | some (.slice e), some .string => (match P.underlying e with | some (.int .u8) => some (.one (.str (strOf b))) | _ => none)
    | _, _ => none := by
  unfold convertV
  cases P.underlying s with
  | none => rfl
  | some a =>
    cases P.underlying d with
    | none => cases a <;> rfl
    | some d =>
      cases d <;> cases a <;> try rfl
      rename_i e
      cases he : P.underlying e with
      | none => simp only [he]
      | some x =>
        cases x <;> simp only [he]
        rename_i k
        cases k <;> simp [view, bytesOf_u8s]

theorem mapsBack (h : Heap) (m : Mps) (hm : m.Ok) (b : List Int) (hb0 : ∀ c, c ∈ b → 0 ≤ c ∧ c < 256) : CX 6 [.agg (encMps m), Sl (u8sOf b)] h = some (Bo true, h, []) := by
  refine CI_of Try.func6 rfl 0 ?_
  have hk : cfg.keep 6 = 0 := rfl
  have q := qt6
  simp [Try.f6, quietFn, quietRegs] at q
  have e1 := light [] m hm
  have e3 := check' [] m hm
  simp [encMps] at e1 e3
  by_cases c1 : weigh 200 m.es m.sizes.length ≤ 200
  · by_cases c2 : 600 < b.length
    · have c2I : (600 : Int) < b.length := by omega
      simp (disch := omega) [Try.f6, hk, q, encMps, e1, c1, c2, c2I, works25]
    · have c2I : ¬ (600 : Int) < b.length := by omega
      have hf : Fit b := by show b.length ≤ _; omega
      have hb : Byt b := ⟨hf, hb0⟩
      have e4 := fun h => read h b hb
      have hw := weigh_len m.es m.sizes.length c1
      rcases hR : readF b with ⟨y, c, a⟩
      have rest : True := trivial
      by_cases c4 : c = 0
      · subst c4
        have hbk := read_back hb (by rw [hR])
        rw [hR] at hbk
        simp only at hbk
        have hy : y.es.length ≤ 100000 := by
          have := bytesF_len y
          rw [hbk.2] at this
          omega
        have oky := ok_of hbk.1 hy
        have f1 := check [] y oky
        have f2 := fun h => bytes h y oky (good_of hbk.1 hy)
        simp [encMps, hbk.1] at f1
        simp [encMps, hbk.2] at f2
        simp [hR, encMps] at e4
        by_cases c3 : (checkF m).1 = 0
        · have g := good_of c3 (by omega)
          have e5 := fun h => bytes h m hm g
          have e6 := fun h => read h (bytesF m) (bytesF_byt g)
          have e7 := fun h => same h m hm
          rw [read_bytes c3 (by omega)] at e6
          simp [encMps] at e5 e6 e7
          simp (disch := omega) [Try.f6, hk, q, encMps, e1, e3, e4, e5, e6, e7, f1, f2, c1, c2, c2I, c3, conv_u8s, works25]
        · have c3b : ((checkF m).1 == 0) = false := by simpa using c3
          simp (disch := omega) [Try.f6, hk, q, encMps, e1, e3, e4, f1, f2, c1, c2, c2I, c3b, conv_u8s, works25]
      · have hwt := read_within (b := b) (by rw [hR]; exact c4)
        rw [hR] at hwt
        simp only at hwt
        have hw1 := hwt.1
        have hw2 := hwt.2
        have c4n : (c != 0) = true := by simpa using c4
        simp [hR, encMps] at e4
        by_cases c3 : (checkF m).1 = 0
        · have g := good_of c3 (by omega)
          have e5 := fun h => bytes h m hm g
          have e6 := fun h => read h (bytesF m) (bytesF_byt g)
          have e7 := fun h => same h m hm
          rw [read_bytes c3 (by omega)] at e6
          simp [encMps] at e5 e6 e7
          simp (disch := omega) [Try.f6, hk, q, encMps, e1, e3, e4, e5, e6, e7, c1, c2, c2I, c3, c4n, hw1, hw2, works25]
        · have c3b : ((checkF m).1 == 0) = false := by simpa using c3
          simp (disch := omega) [Try.f6, hk, q, encMps, e1, e3, e4, c1, c2, c2I, c3b, c4n, hw1, hw2, works25]
  · simp (disch := omega) [Try.f6, hk, q, encMps, e1, c1, works25]

theorem typed_bytes {ls : List Leaf} (h : Typed (.slice (.int .u8)) ls) : ∃ b : List Int, ls = [.isl (u8sOf b)] ∧ ∀ c, c ∈ b → 0 ≤ c ∧ c < 256 := by
  simp only [Typed] at h
  obtain ⟨es, rfl, h1, h2⟩ := h
  obtain ⟨xs, rfl, hl⟩ := list_of (f := fun n : { n : Int // 0 ≤ n ∧ n < 256 } => [Leaf.int .u8 n.1]) (es := es) fun x hx => by
    obtain ⟨n, hn, h3⟩ := h2 x hx
    refine ⟨⟨n, ?_⟩, hn⟩
    simp [Lit.wf, IntKind.min, IntKind.max, IntKind.signed, IntKind.bits] at h3
    omega
  refine ⟨xs.map (·.1), by simp [u8sOf, Function.comp_def], ?_⟩
  intro c hc
  obtain ⟨x, _, rfl⟩ := List.mem_map.1 hc
  exact x.2
end Go.Proofs.Ytdkknhpdjcdmfaa.Abs
