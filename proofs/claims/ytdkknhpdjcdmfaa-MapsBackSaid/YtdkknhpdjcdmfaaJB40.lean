/- YtdkknhpdjcdmfaaJB40: texts that follow each other, as one. -/
import Derived.Test.YtdkknhpdjcdmfaaJB39
/- Maps out of bytes: the bases. -/
set_option linter.unusedSimpArgs false
set_option linter.unusedVariables false
namespace Go.Proofs.Ytdkknhpdjcdmfaa.Abs
open Go Go.RowKit Go.Proofs

/-- Bases out of bytes. -/
def bsG (b ps : List Int) : List Int → List (Int × Int) → Rd → List (Int × Int) × Rd
  | [], acc, r => (acc, r)
  | d :: ds, acc, r => if (ps.length : Int) ≤ (numR b 4096 r).1 ∨ ps.contains d = true then (acc ++ (d :: ds).map fun x => (x, 0), failR (numR b 4096 r).2 8 r.at_)
      else bsG b ps ds (acc ++ [(d, ps.getD (numR b 4096 r).1.toNat 0)]) (numR b 4096 r).2

theorem pairsOf_app (xs ys : List (Int × Int)) : pairsOf (xs ++ ys) = pairsOf xs ++ pairsOf ys := by simp [pairsOf]
theorem set_mid {α : Type} (xs ys : List α) (x y : α) : (xs ++ x :: ys).set xs.length y = xs ++ y :: ys := by
  rw [List.set_append_right _ _ (Nat.le_refl _), Nat.sub_self]; rfl

theorem re_bases (h : Heap) (b : List Int) (hb : Byt b) (sizes : List Int) (er : List (List Leaf)) (her : plainR er = true) (e : Ent) (hp : Fit e.ps) (n6 n8 : Nat) (last : Int) (xs : List Int) (hx : xs.length ≤ 2097152) (m : Nat) (r : Rd) :
    ∃ i, lpK 27 Try.f27 197 3 h (reG h b r sizes er e (xs.map fun x => (x, 0)) (I (n6 : Nat)) (I (n8 : Nat)) (I last) (I (m : Nat)) (I (m : Nat)) (Sl (intsOf xs)) (I (0 : Nat)) (I (xs.length : Nat)))
      = some (.exit 6, reG h b (bsG b e.ps xs [] r).2 sizes er e (bsG b e.ps xs [] r).1 (I (n6 : Nat)) (I (n8 : Nat)) (I last) (I (m : Nat)) (I (m : Nat)) (Sl (intsOf xs)) (I (i : Nat)) (I (xs.length : Nat))) := by
  have q := qt27
  simp [Try.f27, quietFn, quietRegs] at q
  have d := dt27
  simp [Try.f27, infoFn, infoRegs, List.lookup] at d
  have key := loop_rel (P := Try.prog) (C := cfg) (sc := runScope Try.prog cfg 197 h.length (cfg.live 27) 0) (N := 197) (n0 := h.length) (K := cfg.live 27) (c := loopAt Try.f27 3)
    (fun s : List Int × List (Int × Int) × Rd => reG h b s.2.2 sizes er e (s.2.1 ++ s.1.map fun x => (x, 0)) (I (n6 : Nat)) (I (n8 : Nat)) (I last) (I (m : Nat)) (I (m : Nat)) (Sl (intsOf xs)) (I (s.2.1.length : Nat)) (I (xs.length : Nat)))
    (fun s => s.2.1.length + s.1.length = xs.length) (fun s => s.1.length)
    (fun s w => ∃ i, w = (.exit 6, reG h b (bsG b e.ps s.1 s.2.1 s.2.2).2 sizes er e (bsG b e.ps s.1 s.2.1 s.2.2).1 (I (n6 : Nat)) (I (n8 : Nat)) (I last) (I (m : Nat)) (I (m : Nat)) (Sl (intsOf xs)) (I (i : Nat)) (I (xs.length : Nat)))) ?_ (xs, [], r) (by simp)
  · obtain ⟨w, h1, i, rfl⟩ := key
    exact ⟨i, h1⟩
  rintro ⟨ds, acc, a, c, ea⟩ j1
  simp only at j1 ⊢
  cases ds with
  | nil =>
    simp only [List.length_nil, Nat.add_zero] at j1
    refine .inr ⟨_, ?_, ?_, acc.length, rfl⟩
    · simp (disch := omega) [round_eq, reG, bsG, rdRow, Try.f27, lv27, her, j1, -getElem?_pos]
    · nofun
  | cons x ds =>
    simp only [List.length_cons] at j1
    have hi : acc.length < xs.length := by omega
    have hiI : ((acc.length : Nat) : Int) < ((xs.length : Nat) : Int) := by omega
    have hget : (acc ++ (x, (0 : Int)) :: ds.map fun x => (x, (0 : Int)))[acc.length]? = some (x, 0) := by simp
    have hlen : (acc ++ (x, (0 : Int)) :: ds.map fun x => (x, (0 : Int))).length = xs.length := by simp; omega
    by_cases hc : c = 0
    · subst hc
      have hx4 := numR_le hb (show (0 : Int) ≤ 4096 by omega) ⟨a, 0, ea⟩
      by_cases h1 : (e.ps.length : Int) ≤ (numR b 4096 ⟨a, 0, ea⟩).1
      · have hbs : bsG b e.ps (x :: ds) acc ⟨a, 0, ea⟩ = (acc ++ (x :: ds).map fun x => (x, 0), failR (numR b 4096 ⟨a, 0, ea⟩).2 8 a) := by rw [bsG, if_pos (.inl h1)]
        rw [hbs]
        refine .inr ⟨_, ?_, ?_, acc.length, rfl⟩
        · by_cases hc1 : (numR b 4096 ⟨a, 0, ea⟩).2.code = 0
          · simp (disch := (first | omega | simp (disch := omega) [rdRow, hb, hc1])) [round_eq, reG, rdRow, Try.f27, lv27, hi, hiI, hget, hlen, wrap_i64, number_at, fail_at, contains [] e.ps hp, contains _ e.ps hp, q, d, failR, her, h1, hc1, unOK, apartR, disjoint, cellsApart, Nat.add_assoc, -getElem?_pos, -List.contains_eq_mem]
          · simp (disch := (first | omega | simp (disch := omega) [rdRow, hb, hc1])) [round_eq, reG, rdRow, Try.f27, lv27, hi, hiI, hget, hlen, wrap_i64, number_at, fail_no, contains [] e.ps hp, contains _ e.ps hp, q, d, failR, her, h1, hc1, unOK, apartR, disjoint, cellsApart, Nat.add_assoc, -getElem?_pos, -List.contains_eq_mem]
        · nofun
      · by_cases h2 : e.ps.contains x = true
        · have hbs : bsG b e.ps (x :: ds) acc ⟨a, 0, ea⟩ = (acc ++ (x :: ds).map fun x => (x, 0), failR (numR b 4096 ⟨a, 0, ea⟩).2 8 a) := by rw [bsG, if_pos (.inr h2)]
          rw [hbs]
          refine .inr ⟨_, ?_, ?_, acc.length, rfl⟩
          · by_cases hc1 : (numR b 4096 ⟨a, 0, ea⟩).2.code = 0
            · simp (disch := (first | omega | simp (disch := omega) [rdRow, hb, hc1])) [round_eq, reG, rdRow, Try.f27, lv27, hi, hiI, hget, hlen, wrap_i64, number_at, fail_at, contains [] e.ps hp, contains _ e.ps hp, q, d, failR, her, h1, h2, hc1, unOK, apartR, disjoint, cellsApart, Nat.add_assoc, -getElem?_pos, -List.contains_eq_mem]
            · simp (disch := (first | omega | simp (disch := omega) [rdRow, hb, hc1])) [round_eq, reG, rdRow, Try.f27, lv27, hi, hiI, hget, hlen, wrap_i64, number_at, fail_no, contains [] e.ps hp, contains _ e.ps hp, q, d, failR, her, h1, h2, hc1, unOK, apartR, disjoint, cellsApart, Nat.add_assoc, -getElem?_pos, -List.contains_eq_mem]
          · nofun
        · have hbs : bsG b e.ps (x :: ds) acc ⟨a, 0, ea⟩ = bsG b e.ps ds (acc ++ [(x, e.ps.getD (numR b 4096 ⟨a, 0, ea⟩).1.toNat 0)]) (numR b 4096 ⟨a, 0, ea⟩).2 := by
            rw [bsG, if_neg fun h => h.elim h1 h2]
          rw [hbs]
          have hk : (numR b 4096 ⟨a, 0, ea⟩).1.toNat < e.ps.length := by omega
          obtain ⟨p, hp1⟩ : ∃ p, e.ps[(numR b 4096 ⟨a, 0, ea⟩).1.toNat]? = some p := ⟨_, List.getElem?_eq_getElem hk⟩
          have hgd : e.ps.getD (numR b 4096 ⟨a, 0, ea⟩).1.toNat 0 = p := by simp [List.getD, hp1]
          have hset : (pairsOf (acc ++ (x, 0) :: ds.map fun x => (x, 0))).set acc.length [.int .i64 x, .int .i64 p] = pairsOf (acc ++ (x, p) :: ds.map fun x => (x, 0)) := by simp [pairsOf_app, pairsOf]
          have h2' : e.ps.contains x = false := by simpa using h2
          have hk0 := hx4.1
          have h1I : (numR b 4096 ⟨a, 0, ea⟩).1 < (e.ps.length : Int) := by omega
          have hc1 : True := trivial
          refine .inl ⟨(ds, acc ++ [(x, e.ps.getD (numR b 4096 ⟨a, 0, ea⟩).1.toNat 0)], (numR b 4096 ⟨a, 0, ea⟩).2), ?_, by simp; omega, by simp, fun w hw => hw⟩
          rw [hgd]
          simp (disch := (first | omega | simp (disch := omega) [rdRow, hb, hc1])) [round_eq, reG, rdRow, Try.f27, lv27, hi, hiI, hget, hlen, wrap_i64, number_at, fail_no, contains [] e.ps hp, contains _ e.ps hp, q, d, failR, her, h1, h1I, h2', hk0, hk, hp1, hset, unOK, apartR, disjoint, cellsApart, Nat.add_assoc, -getElem?_pos, -List.contains_eq_mem]
          omega
    · have hc1 := hc
      have hnr : numR b 4096 ⟨a, c, ea⟩ = (0, ⟨a, c, ea⟩) := by simp [numR, hc]
      by_cases h1 : (e.ps.length : Int) ≤ 0
      · have h1e : (e.ps = []) = True := by simp only [eq_iff_iff, iff_true]; exact List.eq_nil_of_length_eq_zero (by omega)
        have hbs : bsG b e.ps (x :: ds) acc ⟨a, c, ea⟩ = (acc ++ (x :: ds).map fun x => (x, 0), ⟨a, c, ea⟩) := by rw [bsG, hnr, if_pos (.inl h1), failR, if_neg hc]
        rw [hbs]
        refine .inr ⟨_, ?_, ?_, acc.length, rfl⟩
        · simp (disch := (first | omega | simp (disch := omega) [rdRow, hb, hc1])) [round_eq, reG, rdRow, Try.f27, lv27, hi, hiI, hget, hlen, wrap_i64, number_no, fail_no, contains [] e.ps hp, contains _ e.ps hp, q, d, failR, her, h1e, hc1, unOK, apartR, disjoint, cellsApart, Nat.add_assoc, -getElem?_pos, -List.contains_eq_mem]
        · nofun
      · have hne : ¬ e.ps = [] := fun h => h1 (by simp [h])
        by_cases h2 : e.ps.contains x = true
        · have hbs : bsG b e.ps (x :: ds) acc ⟨a, c, ea⟩ = (acc ++ (x :: ds).map fun x => (x, 0), ⟨a, c, ea⟩) := by rw [bsG, hnr, if_pos (.inr h2), failR, if_neg hc]
          rw [hbs]
          refine .inr ⟨_, ?_, ?_, acc.length, rfl⟩
          · simp (disch := (first | omega | simp (disch := omega) [rdRow, hb, hc1])) [round_eq, reG, rdRow, Try.f27, lv27, hi, hiI, hget, hlen, wrap_i64, number_no, fail_no, contains [] e.ps hp, contains _ e.ps hp, q, d, failR, her, hne, h2, hc1, unOK, apartR, disjoint, cellsApart, Nat.add_assoc, -getElem?_pos, -List.contains_eq_mem]
          · nofun
        · have hk : 0 < e.ps.length := by omega
          have hne : ¬ e.ps = [] := fun h => by rw [h] at hk; simp at hk
          obtain ⟨p, hp1⟩ : ∃ p, e.ps[0]? = some p := ⟨_, List.getElem?_eq_getElem hk⟩
          have hbs : bsG b e.ps (x :: ds) acc ⟨a, c, ea⟩ = bsG b e.ps ds (acc ++ [(x, p)]) ⟨a, c, ea⟩ := by
            rw [bsG, hnr, if_neg fun h => h.elim h1 h2]
            simp [List.getD, hp1]
          rw [hbs]
          have hset : (pairsOf (acc ++ (x, 0) :: ds.map fun x => (x, 0))).set acc.length [.int .i64 x, .int .i64 p] = pairsOf (acc ++ (x, p) :: ds.map fun x => (x, 0)) := by simp [pairsOf_app, pairsOf]
          have h2' : e.ps.contains x = false := by simpa using h2
          have h1I : 0 < (e.ps.length : Int) := by omega
          refine .inl ⟨(ds, acc ++ [(x, p)], ⟨a, c, ea⟩), ?_, by simp; omega, by simp, fun w hw => hw⟩
          simp (disch := (first | omega | simp (disch := omega) [rdRow, hb, hc1])) [round_eq, reG, rdRow, Try.f27, lv27, hi, hiI, hget, hlen, wrap_i64, number_no, fail_no, contains [] e.ps hp, contains _ e.ps hp, q, d, failR, her, hne, h1I, h2', hk, hp1, hset, unOK, apartR, disjoint, cellsApart, Nat.add_assoc, -getElem?_pos, -List.contains_eq_mem]
          omega
end Go.Proofs.Ytdkknhpdjcdmfaa.Abs

/- A reader's functions, whatever is wrong already. -/
set_option linter.unusedSimpArgs false
set_option linter.unusedVariables false
namespace Go.Proofs.Ytdkknhpdjcdmfaa.Abs
open Go Go.RowKit Go.Proofs

def wsIf (c : Bool) (k : Nat) : List Nat := if c then [k] else []
theorem set_same {H : Heap} {k : Nat} {b : List Int} {r : Rd} (e : rowAt H k 1 = some (4, [rdRow b r])) : H.set k (some (.row 4 [rdRow b r])) = H := upd_self (rowAt_some e).1
theorem number_any (H : Heap) (k : Nat) (most : Int) (hr : isRd (rowAt H k 1)) (hb : Byt (rdB (rowAt H k 1))) :
    CX 64 [.one (.ptr k 1 0 0), I most] H = some (I (numR (rdB (rowAt H k 1)) most (rdOf (rowAt H k 1))).1, H.set k (some (.row 4 [rdRow (rdB (rowAt H k 1)) (numR (rdB (rowAt H k 1)) most (rdOf (rowAt H k 1))).2])), wsIf (decide ((rdOf (rowAt H k 1)).code = 0)) k) := by
  by_cases h0 : (rdOf (rowAt H k 1)).code = 0
  · rw [number_at H k most hr hb h0]; simp [wsIf, h0]
  · rw [number_no H k most hr h0]
    have e : numR (rdB (rowAt H k 1)) most (rdOf (rowAt H k 1)) = (0, rdOf (rowAt H k 1)) := by simp [numR, h0]
    rw [e, set_same hr]; simp [wsIf, h0]
theorem fail_any (H : Heap) (k : Nat) (c n : Int) (hr : isRd (rowAt H k 1)) :
    CX 65 [.one (.ptr k 1 0 0), I c, I n] H = some (.tup [], H.set k (some (.row 4 [rdRow (rdB (rowAt H k 1)) (failR (rdOf (rowAt H k 1)) c n)])), wsIf (decide ((rdOf (rowAt H k 1)).code = 0)) k) := by
  by_cases h0 : (rdOf (rowAt H k 1)).code = 0
  · rw [fail_at H k c n hr h0]; simp [wsIf, h0, failR]
  · rw [fail_no H k c n hr h0]
    have e : failR (rdOf (rowAt H k 1)) c n = rdOf (rowAt H k 1) := by simp [failR, h0]
    rw [e, set_same hr]; simp [wsIf, h0]
def lstR' (b : List Int) (size : Int) (r : Rd) : List Int × Rd := if r.code = 0 then lstR b size r else ([], r)
theorem list_any (H : Heap) (k : Nat) (size : Int) (hs0 : 0 ≤ size) (hs : size ≤ 1048576) (hr : isRd (rowAt H k 1)) (hb : Byt (rdB (rowAt H k 1))) :
    CX 66 [.one (.ptr k 1 0 0), I size] H = some (Sl (intsOf (lstR' (rdB (rowAt H k 1)) size (rdOf (rowAt H k 1))).1), H.set k (some (.row 4 [rdRow (rdB (rowAt H k 1)) (lstR' (rdB (rowAt H k 1)) size (rdOf (rowAt H k 1))).2])), wsIf (decide ((rdOf (rowAt H k 1)).code = 0)) k) := by
  by_cases h0 : (rdOf (rowAt H k 1)).code = 0
  · rw [list_rd H k size hs0 hs hr hb h0]; simp [wsIf, h0, lstR']
  · rw [list_no H k size hr h0]
    have e : lstR' (rdB (rowAt H k 1)) size (rdOf (rowAt H k 1)) = ([], rdOf (rowAt H k 1)) := by simp [lstR', h0]
    rw [e, set_same hr]; simp [wsIf, h0]
@[simp] theorem wsIf_own {n0 k : Nat} (hk : n0 ≤ k) (c : Bool) (ws : List Nat) : wsOf n0 (wsIf c k ++ ws) = wsOf n0 ws := by
  cases c <;> simp [wsIf, wsOf_cons _ _ hk]
@[simp] theorem wsIf_one {n0 k : Nat} (hk : n0 ≤ k) (c : Bool) : wsOf n0 (wsIf c k) = [] := by
  have := wsIf_own hk c []
  simpa using this
end Go.Proofs.Ytdkknhpdjcdmfaa.Abs

/- Maps out of bytes: what all of it is. -/
set_option linter.unusedSimpArgs false
set_option linter.unusedVariables false
namespace Go.Proofs.Ytdkknhpdjcdmfaa.Abs
open Go Go.RowKit Go.Proofs

/-- The number of an entry, and where its function's number is read. -/
def entN (b : List Int) (last : Int) (r : Rd) : Int × Rd :=
  (last + ((numR b 1048576 r).1 + 1), if 1048576 < last + ((numR b 1048576 r).1 + 1) then failR (numR b 1048576 r).2 18 r.at_ else (numR b 1048576 r).2)
/-- What is told of a safepoint, of a function, out of bytes. -/
def entB (b : List Int) (size : Int) (n f : Int) (r : Rd) : Ent × Rd :=
  (⟨n, f, (lstR' b size r).1, (bsG b (lstR' b size r).1 (lstR' b size (lstR' b size r).2).1 [] (lstR' b size (lstR' b size r).2).2).1⟩,
    (bsG b (lstR' b size r).1 (lstR' b size (lstR' b size r).2).1 [] (lstR' b size (lstR' b size r).2).2).2)
def enG (b sizes : List Int) : Nat → Int → List Ent → Rd → List Ent × Rd
  | 0, _, acc, r => (acc, r)
  | n + 1, last, acc, r => if r.code = 0 then
      (if (sizes.length : Int) ≤ (numR b 32 (entN b last r).2).1 then (acc, failR (numR b 32 (entN b last r).2).2 12 (entN b last r).2.at_)
       else enG b sizes n (entN b last r).1 (acc ++ [(entB b (sizes.getD (numR b 32 (entN b last r).2).1.toNat 0) (entN b last r).1 (numR b 32 (entN b last r).2).1 (numR b 32 (entN b last r).2).2).1])
        (entB b (sizes.getD (numR b 32 (entN b last r).2).1.toNat 0) (entN b last r).1 (numR b 32 (entN b last r).2).1 (numR b 32 (entN b last r).2).2).2)
    else (acc, r)
def endR (b : List Int) (r : Rd) : Rd := if r.code = 0 ∧ r.at_ < b.length then ⟨r.at_, 6, r.at_⟩ else r
def readF (b : List Int) : Mps × Int × Int :=
  let s := szG b (numR b 32 ⟨0, 0, 0⟩).1.toNat [] (numR b 32 ⟨0, 0, 0⟩).2
  let t := enG b s.1 (numR b 1048576 s.2).1.toNat 0 [] (numR b 1048576 s.2).2
  if (endR b t.2).code = 0 then (⟨s.1, t.1⟩, 0, 0) else (⟨[], []⟩, (endR b t.2).code, (endR b t.2).eat)
end Go.Proofs.Ytdkknhpdjcdmfaa.Abs

/- Maps out of bytes: the entries. -/
set_option linter.unusedSimpArgs false
set_option linter.unusedVariables false
namespace Go.Proofs.Ytdkknhpdjcdmfaa.Abs
open Go Go.RowKit Go.Proofs

def lastRow (h : Heap) (e : Ent) : List Leaf := [.int .i64 e.n, .int .i64 e.f, .isl (intsOf e.ps), .sl (h.length + 5) 2 e.ds.length 0 e.ds.length]

/-- Between entries: the count, the number ahead, the entries ahead, the last one (with what is left of its bases' loop), the reader. -/
def roS (h : Heap) (b : List Int) (n6 : Nat) (sizes : List Int) (n8 : Nat) (last : Int) (es : List Ent) (o : Option (Ent × Nat)) (r : Rd) : St := match o with
  | none => ⟨[(0, Sl (u8sOf b)), (4, .one (.ptr h.length 1 0 0)), (6, I (n6 : Nat)), (5, .one (.ptr (h.length + 1) 1 0 0)), (8, I (n8 : Nat)), (7, I last), (10, .junk), (103, .junk), (102, .junk), (101, .junk), (118, .junk), (117, .junk), (2, .one (.ptr (h.length + 5) 1 0 0)), (3, .one (.ptr (h.length + 6) 1 0 0))],
    h ++ [some (.row 4 [rdRow b r]), some (.row 2 [[.sl (h.length + 2) 1 sizes.length 0 sizes.length, .sl (h.length + 3) 4 0 0 0]]), some (.row 1 (intsOf sizes)), some (.row 4 []), none, some (.row 2 [[.nils, .nils]]), some (.row 2 [[.int .i64 0, .int .i64 0]])], []⟩
  | some (e, i) => reG h b r sizes (entsOf es ++ [lastRow h e]) e e.ds (I (n6 : Nat)) (I (n8 : Nat)) (I last) (I (e.ds.length : Nat)) (I (e.ds.length : Nat)) (Sl (intsOf (e.ds.map (·.1)))) (I (i : Nat)) (I (e.ds.length : Nat))
end Go.Proofs.Ytdkknhpdjcdmfaa.Abs

/- Maps out of bytes: one entry. -/
set_option linter.unusedSimpArgs false
set_option linter.unusedVariables false
namespace Go.Proofs.Ytdkknhpdjcdmfaa.Abs
open Go Go.RowKit Go.Proofs

@[simp] theorem rd_eta (x : Rd) : (⟨x.at_, x.code, x.eat⟩ : Rd) = x := rfl

/-- Where the entries' loop is left within an entry. -/
def brS (h : Heap) (b : List Int) (r : Rd) (sizes : List Int) (er : List (List Leaf)) (n f : Int) (v6 v8 v7 v103 v102 v101 v118 v117 : V) : St :=
  ⟨[(0, Sl (u8sOf b)), (4, .one (.ptr h.length 1 0 0)), (6, v6), (5, .one (.ptr (h.length + 1) 1 0 0)), (8, v8), (7, v7), (10, .one (.ptr (h.length + 4) 1 0 0)), (103, v103), (102, v102), (101, v101), (118, v118), (117, v117), (2, .one (.ptr (h.length + 6) 1 0 0)), (3, .one (.ptr (h.length + 7) 1 0 0))],
    h ++ [some (.row 4 [rdRow b r]), some (.row 2 [[.sl (h.length + 2) 1 sizes.length 0 sizes.length, .sl (h.length + 3) 4 er.length 0 er.length]]), some (.row 1 (intsOf sizes)), some (.row 4 er),
      some (.row 4 [[.int .i64 n, .int .i64 f, .nils, .sl (h.length + 5) 2 0 0 0]]), some (.row 2 []), some (.row 2 [[.nils, .nils]]), some (.row 2 [[.int .i64 0, .int .i64 0]])], []⟩

theorem ro_out (h : Heap) (b : List Int) (hb : Byt b) (n6 : Nat) (sizes : List Int) (n8 : Nat) (last : Int) (es : List Ent) (o : Option (Ent × Nat)) (r : Rd) (hr : n8 = 0 ∨ ¬ r.code = 0) :
    round Try.prog cfg (runScope Try.prog cfg 197 h.length (cfg.live 27) 0) 197 h.length (cfg.live 27) (loopAt Try.f27 1) (roS h b n6 sizes n8 last es o r) = some (.exit 2, roS h b n6 sizes n8 last es o r) := by
  obtain ⟨a, c, e⟩ := r
  cases n8 with
  | zero =>
    cases o with
    | none => simp (disch := (first | omega | simp)) [round_eq, roS, rdRow, Try.f27, lv27, -getElem?_pos]
    | some p =>
      obtain ⟨x, i⟩ := p
      simp (disch := (first | omega | simp)) [round_eq, roS, reG, rdRow, lastRow, Try.f27, lv27, -getElem?_pos]
  | succ n =>
    have hc : ¬ c = 0 := hr.resolve_left (by omega)
    have hcb : (c == 0) = false := by simpa using hc
    have hnI : (0 : Int) < ((n : Nat) : Int) + 1 := by omega
    cases o with
    | none => simp (disch := (first | omega | simp)) [round_eq, roS, rdRow, Try.f27, lv27, hnI, hcb, -getElem?_pos]
    | some p =>
      obtain ⟨x, i⟩ := p
      simp (disch := (first | omega | simp)) [round_eq, roS, reG, rdRow, lastRow, Try.f27, lv27, hnI, hcb, -getElem?_pos]
end Go.Proofs.Ytdkknhpdjcdmfaa.Abs

/- Maps out of bytes: one entry, all of it. -/
set_option linter.unusedSimpArgs false
set_option linter.unusedVariables false
namespace Go.Proofs.Ytdkknhpdjcdmfaa.Abs
open Go Go.RowKit Go.Proofs

theorem fzRows_one {h : Heap} {n0 : Nat} {L : List (Option Nat)} (c : List Leaf) : fzRows h n0 L [c] false = consO (fzCells h n0 L c (plainC c)) (some []) := by
  simp only [fzRows, mapO_cons, cells_eq, mapO_nil]
theorem fzRows_app2 {h : Heap} {n0 : Nat} {L : List (Option Nat)} (a : List (List Leaf)) (c1 c2 : List Leaf) (ha : plainR a = true) (h1 : plainC c1 = true) : fzRows h n0 L (a ++ [c1, c2]) false = appO (some (a ++ [c1])) (consO (fzCells h n0 L c2 (plainC c2)) (some [])) := by
  rw [show a ++ [c1, c2] = (a ++ [c1]) ++ [c2] by simp]
  exact fzRows_app _ _ (by simp [ha, h1])
@[simp] theorem entsOf_nil : entsOf [] = [] := rfl
@[simp] theorem entsOf_snoc (es : List Ent) (e : Ent) : entsOf (es ++ [e]) = entsOf es ++ [encEnt e] := by simp [entsOf]

theorem ro_first (h : Heap) (b : List Int) (hb : Byt b) (n6 : Nat) (sizes : List Int) (hs : ∀ s, s ∈ sizes → 0 ≤ s ∧ s ≤ 4096) (n : Nat) (hn : n ≤ 1048576) (last : Int) (l0 : 0 ≤ last) (l1 : last ≤ 2199023255552) 
    (a a1 a2 a3 a4 a5 a6 : Nat) (ea k1 e1 k2 e2 k3 e3 k4 e4 k5 e5 k6 e6 x f : Int) (hX : numR b 1048576 ⟨a, 0, ea⟩ = (x, ⟨a1, k1, e1⟩)) (hR : (if 1048576 < last + (x + 1) then failR ⟨a1, k1, e1⟩ 18 (a : Nat) else ⟨a1, k1, e1⟩) = ⟨a2, k2, e2⟩)
    (hF : numR b 32 ⟨a2, k2, e2⟩ = (f, ⟨a3, k3, e3⟩)) (hlt : ¬ (sizes.length : Int) ≤ f) (s : Int) (hS : sizes[f.toNat]? = some s) (ps xs : List Int) (ds : List (Int × Int)) (hP : lstR' b s ⟨a3, k3, e3⟩ = (ps, ⟨a4, k4, e4⟩)) (hD : lstR' b s ⟨a4, k4, e4⟩ = (xs, ⟨a5, k5, e5⟩))
    (hB : bsG b ps xs [] ⟨a5, k5, e5⟩ = (ds, ⟨a6, k6, e6⟩)) (hps : ps.length ≤ 4096) (hxs : xs.length ≤ 4096) (hdx : ds.map (·.1) = xs) :
    ∃ i, round Try.prog cfg (runScope Try.prog cfg 197 h.length (cfg.live 27) 0) 197 h.length (cfg.live 27) (loopAt Try.f27 1) (roS h b n6 sizes (n + 1) last [] none ⟨a, 0, ea⟩) = some (.normal, roS h b n6 sizes n (last + (x + 1)) [] (some (⟨last + (x + 1), f, ps, ds⟩, i)) ⟨a6, k6, e6⟩) := by
  have q := qt27
  simp [Try.f27, quietFn, quietRegs] at q
  have d := dt27
  simp [Try.f27, infoFn, infoRegs, List.lookup] at d
  have x4 := numR_le hb (show (0 : Int) ≤ 1048576 by omega) ⟨a, 0, ea⟩
  have f4 := numR_le hb (show (0 : Int) ≤ 32 by omega) ⟨a2, k2, e2⟩
  rw [hX] at x4
  rw [hF] at f4
  simp only at x4 f4
  have s4 := hs s (List.mem_of_getElem? hS)
  have hnI : (0 : Int) < ((n : Nat) : Int) + 1 := by omega
  have hfl : f.toNat < sizes.length := by omega
  have hflI : f < (sizes.length : Int) := by omega
  have hf0 := f4.1
  have hds : ds.length = xs.length := by rw [← hdx]; simp
  obtain ⟨i, g2⟩ := re_bases h b hb sizes [] (by simp) ⟨last + (x + 1), f, ps, ds⟩ (by show ps.length ≤ _; omega) n6 (n + 1) (last + (x + 1)) xs (by omega) xs.length ⟨a5, k5, e5⟩
  simp only [hB] at g2
  refine ⟨i, ?_⟩
  simp [reG, rdRow, encEnt, lpK, lv27, Try.f27] at g2
  have g1 := re_ders h b ⟨a5, k5, e5⟩ sizes [] (by simp) ⟨last + (x + 1), f, ps, ds⟩ n6 (n + 1) (last + (x + 1)) xs (by omega) none none
  simp [reG, rdRow, leftI, encEnt, lpK, lv27, Try.f27] at g1
  by_cases c1 : 1048576 < last + (x + 1)
  · rw [if_pos c1] at hR
    simp (disch := (first | omega | simp (disch := omega) [rdRow, hb])) [round_eq, roS, reG, lastRow, rdRow, Try.f27, lv27, hnI, c1, hX, hR, hF, hP, hD, hlt, hflI, hf0, hfl, hS, s4, hds, hdx, wrap_i64, room_of, fzRows_one, fzRows_app2, encEnt, number_any, fail_any, list_any, g1, g2, q, d, unOK, apartR, disjoint, cellsApart, Nat.add_assoc, -getElem?_pos]
  · rw [if_neg c1] at hR
    simp (disch := (first | omega | simp (disch := omega) [rdRow, hb])) [round_eq, roS, reG, lastRow, rdRow, Try.f27, lv27, hnI, c1, hX, hR, hF, hP, hD, hlt, hflI, hf0, hfl, hS, s4, hds, hdx, wrap_i64, room_of, fzRows_one, fzRows_app2, encEnt, number_any, fail_any, list_any, g1, g2, q, d, unOK, apartR, disjoint, cellsApart, Nat.add_assoc, -getElem?_pos]
theorem ro_more (h : Heap) (b : List Int) (hb : Byt b) (n6 : Nat) (sizes : List Int) (hs : ∀ s, s ∈ sizes → 0 ≤ s ∧ s ≤ 4096) (n : Nat) (hn : n ≤ 1048576) (last : Int) (l0 : 0 ≤ last) (l1 : last ≤ 2199023255552) (es : List Ent) (e : Ent) (j : Nat) (hes : es.length ≤ 2097152)
    (a a1 a2 a3 a4 a5 a6 : Nat) (ea k1 e1 k2 e2 k3 e3 k4 e4 k5 e5 k6 e6 x f : Int) (hX : numR b 1048576 ⟨a, 0, ea⟩ = (x, ⟨a1, k1, e1⟩)) (hR : (if 1048576 < last + (x + 1) then failR ⟨a1, k1, e1⟩ 18 (a : Nat) else ⟨a1, k1, e1⟩) = ⟨a2, k2, e2⟩)
    (hF : numR b 32 ⟨a2, k2, e2⟩ = (f, ⟨a3, k3, e3⟩)) (hlt : ¬ (sizes.length : Int) ≤ f) (s : Int) (hS : sizes[f.toNat]? = some s) (ps xs : List Int) (ds : List (Int × Int)) (hP : lstR' b s ⟨a3, k3, e3⟩ = (ps, ⟨a4, k4, e4⟩)) (hD : lstR' b s ⟨a4, k4, e4⟩ = (xs, ⟨a5, k5, e5⟩))
    (hB : bsG b ps xs [] ⟨a5, k5, e5⟩ = (ds, ⟨a6, k6, e6⟩)) (hps : ps.length ≤ 4096) (hxs : xs.length ≤ 4096) (hdx : ds.map (·.1) = xs) :
    ∃ i, round Try.prog cfg (runScope Try.prog cfg 197 h.length (cfg.live 27) 0) 197 h.length (cfg.live 27) (loopAt Try.f27 1) (roS h b n6 sizes (n + 1) last es (some (e, j)) ⟨a, 0, ea⟩) = some (.normal, roS h b n6 sizes n (last + (x + 1)) (es ++ [e]) (some (⟨last + (x + 1), f, ps, ds⟩, i)) ⟨a6, k6, e6⟩) := by
  have q := qt27
  simp [Try.f27, quietFn, quietRegs] at q
  have d := dt27
  simp [Try.f27, infoFn, infoRegs, List.lookup] at d
  have x4 := numR_le hb (show (0 : Int) ≤ 1048576 by omega) ⟨a, 0, ea⟩
  have f4 := numR_le hb (show (0 : Int) ≤ 32 by omega) ⟨a2, k2, e2⟩
  rw [hX] at x4
  rw [hF] at f4
  simp only at x4 f4
  have s4 := hs s (List.mem_of_getElem? hS)
  have hnI : (0 : Int) < ((n : Nat) : Int) + 1 := by omega
  have hfl : f.toNat < sizes.length := by omega
  have hflI : f < (sizes.length : Int) := by omega
  have hf0 := f4.1
  have hds : ds.length = xs.length := by rw [← hdx]; simp
  obtain ⟨i, g2⟩ := re_bases h b hb sizes (entsOf es ++ [encEnt e]) (by simp) ⟨last + (x + 1), f, ps, ds⟩ (by show ps.length ≤ _; omega) n6 (n + 1) (last + (x + 1)) xs (by omega) xs.length ⟨a5, k5, e5⟩
  simp only [hB] at g2
  refine ⟨i, ?_⟩
  simp [reG, rdRow, encEnt, lpK, lv27, Try.f27] at g2
  have g1 := re_ders h b ⟨a5, k5, e5⟩ sizes (entsOf es ++ [encEnt e]) (by simp) ⟨last + (x + 1), f, ps, ds⟩ n6 (n + 1) (last + (x + 1)) xs (by omega) (some j) (some e.ds.length)
  simp [reG, rdRow, leftI, encEnt, lpK, lv27, Try.f27] at g1
  by_cases c1 : 1048576 < last + (x + 1)
  · rw [if_pos c1] at hR
    simp (disch := (first | omega | simp (disch := omega) [rdRow, hb])) [round_eq, roS, reG, lastRow, rdRow, Try.f27, lv27, hnI, c1, hX, hR, hF, hP, hD, hlt, hflI, hf0, hfl, hS, s4, hds, hdx, wrap_i64, room_of, fzRows_one, fzRows_app2, encEnt, number_any, fail_any, list_any, g1, g2, q, d, unOK, apartR, disjoint, cellsApart, Nat.add_assoc, -getElem?_pos]
  · rw [if_neg c1] at hR
    simp (disch := (first | omega | simp (disch := omega) [rdRow, hb])) [round_eq, roS, reG, lastRow, rdRow, Try.f27, lv27, hnI, c1, hX, hR, hF, hP, hD, hlt, hflI, hf0, hfl, hS, s4, hds, hdx, wrap_i64, room_of, fzRows_one, fzRows_app2, encEnt, number_any, fail_any, list_any, g1, g2, q, d, unOK, apartR, disjoint, cellsApart, Nat.add_assoc, -getElem?_pos]
end Go.Proofs.Ytdkknhpdjcdmfaa.Abs

/- Maps out of bytes: where an entry names no function; all entries. -/
set_option linter.unusedSimpArgs false
set_option linter.unusedVariables false
namespace Go.Proofs.Ytdkknhpdjcdmfaa.Abs
open Go Go.RowKit Go.Proofs

def brV : Option (Ent × Nat) → V × V × V × V × V
  | none => (.junk, .junk, .junk, .junk, .junk)
  | some (e, i) => (I (e.ds.length : Nat), I (e.ds.length : Nat), Sl (intsOf (e.ds.map (·.1))), I (i : Nat), I (e.ds.length : Nat))
def allE (es : List Ent) : Option (Ent × Nat) → List Ent
  | none => es
  | some (e, _) => es ++ [e]
def brK (h : Heap) (b : List Int) (r : Rd) (sizes : List Int) (es : List Ent) (n f : Int) (n6 n8 : Nat) (last : Int) (o : Option (Ent × Nat)) : St :=
  brS h b r sizes (entsOf es) n f (I (n6 : Nat)) (I (n8 : Nat)) (I last) (brV o).1 (brV o).2.1 (brV o).2.2.1 (brV o).2.2.2.1 (brV o).2.2.2.2

theorem ro_break (h : Heap) (b : List Int) (hb : Byt b) (n6 : Nat) (sizes : List Int) (n : Nat) (hn : n ≤ 1048576) (last : Int) (l0 : 0 ≤ last) (l1 : last ≤ 2199023255552) (es : List Ent) (o : Option (Ent × Nat)) (ho : o = none → es = []) (hes : es.length ≤ 2097152)
    (a a1 a2 a3 : Nat) (ea k1 e1 k2 e2 k3 e3 x f : Int) (hX : numR b 1048576 ⟨a, 0, ea⟩ = (x, ⟨a1, k1, e1⟩)) (hR : (if 1048576 < last + (x + 1) then failR ⟨a1, k1, e1⟩ 18 (a : Nat) else ⟨a1, k1, e1⟩) = ⟨a2, k2, e2⟩)
    (hF : numR b 32 ⟨a2, k2, e2⟩ = (f, ⟨a3, k3, e3⟩)) (hlt : (sizes.length : Int) ≤ f) :
    round Try.prog cfg (runScope Try.prog cfg 197 h.length (cfg.live 27) 0) 197 h.length (cfg.live 27) (loopAt Try.f27 1) (roS h b n6 sizes (n + 1) last es o ⟨a, 0, ea⟩) = some (.exit 2, brK h b (failR ⟨a3, k3, e3⟩ 12 (a2 : Nat)) sizes (allE es o) (last + (x + 1)) f n6 (n + 1) (last + (x + 1)) o) := by
  have x4 := numR_le hb (show (0 : Int) ≤ 1048576 by omega) ⟨a, 0, ea⟩
  rw [hX] at x4
  simp only at x4
  have hnI : (0 : Int) < ((n : Nat) : Int) + 1 := by omega
  generalize hG : failR ⟨a3, k3, e3⟩ 12 (a2 : Nat) = G
  obtain ⟨a4, k4, e4⟩ := G
  cases o with
  | none =>
    obtain rfl := ho rfl
    by_cases c1 : 1048576 < last + (x + 1)
    · rw [if_pos c1] at hR
      simp (disch := (first | omega | simp (disch := omega) [rdRow, hb])) [round_eq, roS, brK, brV, allE, brS, lastRow, rdRow, Try.f27, lv27, hnI, c1, hX, hR, hF, hG, hlt, wrap_i64, room_of, fzRows_one, fzRows_app2, encEnt, number_any, fail_any, Nat.add_assoc, -getElem?_pos]
    · rw [if_neg c1] at hR
      simp (disch := (first | omega | simp (disch := omega) [rdRow, hb])) [round_eq, roS, brK, brV, allE, brS, lastRow, rdRow, Try.f27, lv27, hnI, c1, hX, hR, hF, hG, hlt, wrap_i64, room_of, fzRows_one, fzRows_app2, encEnt, number_any, fail_any, Nat.add_assoc, -getElem?_pos]
  | some p =>
    obtain ⟨e, j⟩ := p
    by_cases c1 : 1048576 < last + (x + 1)
    · rw [if_pos c1] at hR
      simp (disch := (first | omega | simp (disch := omega) [rdRow, hb])) [round_eq, roS, reG, brK, brV, allE, brS, lastRow, rdRow, Try.f27, lv27, hnI, c1, hX, hR, hF, hG, hlt, wrap_i64, room_of, fzRows_one, fzRows_app2, encEnt, number_any, fail_any, Nat.add_assoc, -getElem?_pos]
    · rw [if_neg c1] at hR
      simp (disch := (first | omega | simp (disch := omega) [rdRow, hb])) [round_eq, roS, reG, brK, brV, allE, brS, lastRow, rdRow, Try.f27, lv27, hnI, c1, hX, hR, hF, hG, hlt, wrap_i64, room_of, fzRows_one, fzRows_app2, encEnt, number_any, fail_any, Nat.add_assoc, -getElem?_pos]
end Go.Proofs.Ytdkknhpdjcdmfaa.Abs

/- Maps, there and back: a number, numbers that rise. -/
set_option linter.unusedSimpArgs false
set_option linter.unusedVariables false
namespace Go.Proofs.Ytdkknhpdjcdmfaa.Abs
open Go Go.RowKit Go.Proofs

theorem drop_cons {b : List Int} {a : Nat} {x : Int} {xs : List Int} (h : b.drop a = x :: xs) : b[a]? = some x ∧ b.drop (a + 1) = xs := by
  constructor
  · have := congrArg (fun l => l[0]?) h
    simpa using this
  · have := congrArg (List.drop 1) h
    simpa [List.drop_drop] using this
theorem drop_get {b : List Int} {a : Nat} {x : Int} (h : b[a]? = some x) : b.drop a = x :: b.drop (a + 1) := by
  obtain ⟨h1, h2⟩ := List.getElem?_eq_some_iff.1 h
  rw [List.drop_eq_getElem_cons h1, h2]
theorem pow7 (sh : Nat) : (2 : Int) ^ (sh + 7) = 128 * 2 ^ sh := by rw [Int.pow_add]; show (2 : Int) ^ sh * 128 = _; omega
theorem split128 (v : Nat) (n P : Int) : n + ((v % 128 : Nat) : Int) * P + ((v / 128 : Nat) : Int) * (128 * P) = n + (v : Int) * P := by
  have h : (v : Int) = ((v / 128 : Nat) : Int) * 128 + ((v % 128 : Nat) : Int) := by omega
  rw [h, Int.add_mul, Int.mul_assoc]
  omega

theorem numF_small {b : List Int} {most : Int} {frm : Nat} {e : Int} {left v : Nat} {n : Int} {sh a : Nat} {rest : List Int} (hd : b.drop a = (v : Int) :: rest) (hv : v < 128) (hz : v ≠ 0 ∨ sh = 0) (hm : n + v * 2 ^ sh ≤ most) :
    numF b most frm e left n sh a = (n + v * 2 ^ sh, ⟨a + 1, 0, e⟩) := by
  obtain ⟨h1, h2⟩ := drop_cons hd
  unfold numF
  rw [h1]
  simp only
  rw [if_neg (by omega), if_neg (by omega), if_neg (by omega)]
theorem numF_put (b : List Int) (most : Int) (frm : Nat) (e : Int) : ∀ (left v : Nat) (n : Int) (sh a : Nat) (rest : List Int), b.drop a = putF v ++ rest → v < 128 ^ (left + 1) → (v ≠ 0 ∨ sh = 0) → n + v * 2 ^ sh ≤ most →
    ∃ a', numF b most frm e left n sh a = (n + v * 2 ^ sh, ⟨a', 0, e⟩) ∧ b.drop a' = rest := by
  intro left
  induction left with
  | zero =>
    intro v n sh a rest hd hv hz hm
    have hv' : v < 128 := by simpa using hv
    rw [putF_small hv'] at hd
    exact ⟨a + 1, numF_small hd hv' hz hm, (drop_cons hd).2⟩
  | succ left ih =>
    intro v n sh a rest hd hv hz hm
    by_cases hv' : v < 128
    · rw [putF_small hv'] at hd
      exact ⟨a + 1, numF_small hd hv' hz hm, (drop_cons hd).2⟩
    · rw [putF_big (by omega)] at hd
      obtain ⟨h1, h2⟩ := drop_cons hd
      have hc : ((v % 128 + 128 : Nat) : Int) % 128 = ((v % 128 : Nat) : Int) := by omega
      have hs := split128 v n (2 ^ sh)
      have h5 : v / 128 < 128 ^ (left + 1) := by
        rw [Nat.div_lt_iff_lt_mul (by omega)]
        rw [Nat.pow_succ] at hv
        exact hv
      obtain ⟨a', e1, e2⟩ := ih (v / 128) (n + ((v % 128 : Nat) : Int) * 2 ^ sh) (sh + 7) (a + 1) rest h2 h5 (.inl (by omega)) (by rw [pow7, hs]; exact hm)
      refine ⟨a', ?_, e2⟩
      unfold numF
      rw [h1]
      simp only
      rw [if_pos (by omega), hc, e1, pow7, hs]

/-- What is left to read, and nothing is wrong. -/
structure Lft (b : List Int) (r : Rd) (xs : List Int) : Prop where
  code : r.code = 0
  eat : r.eat = 0
  left : b.drop r.at_ = xs
theorem numR_put {b : List Int} {most : Int} {r : Rd} {v : Int} {rest : List Int} (h : Lft b r (putI v ++ rest)) (h0 : 0 ≤ v) (hm : v ≤ most) (hv : v < 268435456) : ∃ r', numR b most r = (v, r') ∧ Lft b r' rest := by
  obtain ⟨a, c, e⟩ := r
  obtain ⟨h1, h2, h3⟩ := h
  simp only at h1 h2 h3
  subst h1; subst h2
  obtain ⟨a', e1, e2⟩ := numF_put b most a 0 4 v.toNat 0 0 a rest h3 (by show v.toNat < 34359738368; omega) (.inr rfl) (by simp; omega)
  refine ⟨⟨a', 0, 0⟩, ?_, ⟨rfl, rfl, e2⟩⟩
  rw [numR, if_pos rfl, e1]
  simp
  omega

theorem szG_put {b : List Int} : ∀ (xs acc : List Int) (r : Rd) (rest : List Int), Lft b r (numsF xs ++ rest) → (∀ n, n ∈ xs → 0 ≤ n ∧ n ≤ 4096) → ∃ r', szG b xs.length acc r = (acc ++ xs, r') ∧ Lft b r' rest
  | [], acc, r, rest, h, _ => ⟨r, by simp [szG], h⟩
  | x :: xs, acc, r, rest, h, hx => by
    have h0 := hx x List.mem_cons_self
    rw [numsF, List.append_assoc] at h
    obtain ⟨r1, e1, h1⟩ := numR_put h h0.1 h0.2 (by omega)
    obtain ⟨r2, e2, h2⟩ := szG_put xs (acc ++ [x]) r1 rest h1 fun n hn => hx n (List.mem_cons_of_mem _ hn)
    refine ⟨r2, ?_, h2⟩
    rw [List.length_cons, szG, if_pos h.code, e1]
    simp only
    rw [e2]
    simp

/-- Numbers that rise, below a size. -/
def Ups (size : Int) : Int → List Int → Prop
  | _, [] => True
  | last, x :: xs => last < x ∧ x < size ∧ Ups size x xs
theorem ups_len {size : Int} : ∀ {last : Int} {xs : List Int}, last < size → Ups size last xs → last + xs.length < size
  | last, [], h0, _ => by simpa using h0
  | last, x :: xs, _, ⟨h1, h2, h3⟩ => by
    have := ups_len h2 h3
    simp only [List.length_cons]
    omega
theorem ups_mem {size : Int} : ∀ {last : Int} {xs : List Int}, Ups size last xs → ∀ x, x ∈ xs → last < x ∧ x < size
  | _, [], _, _, hx => (List.not_mem_nil hx).elim
  | last, y :: ys, ⟨h1, h2, h3⟩, x, hx => by
    rcases List.mem_cons.1 hx with rfl | hx
    · exact ⟨h1, h2⟩
    · have := ups_mem h3 x hx
      omega
theorem ups_up {size : Int} (hs : size ≤ 1099511627776) : ∀ {last : Int} {xs : List Int}, Ups size last xs → Up last xs
  | _, [], _ => trivial
  | last, x :: xs, ⟨h1, h2, h3⟩ => ⟨h1, by omega, ups_up hs h3⟩
theorem ups_iff {size : Int} : ∀ {last : Int} {xs : List Int}, Ups size last xs ↔ ∀ i x, xs[i]? = some x → (if i = 0 then last else xs.getD (i - 1) 0) < x ∧ x < size
  | last, [] => by simp [Ups]
  | last, y :: ys => by
    rw [Ups, ups_iff (last := y) (xs := ys)]
    constructor
    · rintro ⟨h1, h2, h3⟩ i x hx
      cases i with
      | zero => simp at hx; subst hx; exact ⟨h1, h2⟩
      | succ j =>
        have := h3 j x (by simpa using hx)
        cases j with
        | zero => simpa using this
        | succ k => simpa using this
    · intro h
      have h0 := h 0 y rfl
      refine ⟨by simpa using h0.1, h0.2, fun i x hx => ?_⟩
      have := h (i + 1) x (by simpa using hx)
      cases i with
      | zero => simpa using this
      | succ k => simpa using this
theorem rises_ups {size : Int} {xs : List Int} : rises size xs = true ↔ Ups size (-1) xs := by
  rw [rises, Option.isNone_iff_eq_none, findI_none, ups_iff]
  constructor
  · intro h i x hx
    have := h i x hx
    simp only [fallsI, Nat.zero_add, Bool.or_eq_false_iff, decide_eq_false_iff_not, aheadI] at this
    split at this <;> simp_all <;> omega
  · intro h i x hx
    have := h i x hx
    simp only [fallsI, Nat.zero_add, Bool.or_eq_false_iff, decide_eq_false_iff_not, aheadI]
    split at this <;> simp_all <;> omega

theorem rlG_put {b : List Int} {size : Int} (hs : size ≤ 4096) : ∀ (xs acc : List Int) (last : Int) (r : Rd) (rest : List Int), -1 ≤ last → Lft b r (gaps last xs ++ rest) → Ups size last xs → ∃ r', rlG b size xs.length last acc r = (some (acc ++ xs), r') ∧ Lft b r' rest
  | [], acc, last, r, rest, _, h, _ => ⟨r, by simp [rlG], h⟩
  | x :: xs, acc, last, r, rest, hl, h, ⟨u1, u2, u3⟩ => by
    rw [gaps, List.append_assoc] at h
    obtain ⟨r1, e1, h1⟩ := numR_put (most := 4096) h (by omega) (by omega) (by omega)
    obtain ⟨r2, e2, h2⟩ := rlG_put hs xs (acc ++ [x]) x r1 rest (by omega) h1 u3
    refine ⟨r2, ?_, h2⟩
    have hx : last + ((x - last - 1) + 1) = x := by omega
    rw [List.length_cons, rlG, if_pos h.code, e1]
    simp only
    rw [hx, if_neg (by omega), e2]
    simp
theorem lstR_put {b : List Int} {size : Int} (h0 : 0 ≤ size) (hs : size ≤ 4096) {xs : List Int} {r : Rd} {rest : List Int} (h : Lft b r (listF xs ++ rest)) (hu : Ups size (-1) xs) : ∃ r', lstR' b size r = (xs, r') ∧ Lft b r' rest := by
  have hl := ups_len (by omega) hu
  rw [listF, List.append_assoc] at h
  obtain ⟨r1, e1, h1⟩ := numR_put (most := size) h (by omega) (by omega) (by omega)
  obtain ⟨r2, e2, h2⟩ := rlG_put hs xs [] (-1) r1 rest (by omega) h1 hu
  refine ⟨r2, ?_, h2⟩
  rw [lstR', if_pos h.code, lstR, e1]
  simp only [Int.toNat_natCast]
  rw [e2]
  simp

theorem idxI_get {ps : List Int} {n : Int} (h : 0 ≤ idxI ps n) : ps[(idxI ps n).toNat]? = some n ∧ idxI ps n < ps.length := by
  unfold idxI at h ⊢
  split at h
  · rename_i i hi
    obtain ⟨_, x, h1, h2, _⟩ := findI_some hi
    simp at h1 h2
    subst h2
    exact ⟨by simpa using h1, by have := (List.getElem?_eq_some_iff.1 h1).1; omega⟩
  · omega
theorem bsG_put {b ps : List Int} (hp : ps.length ≤ 4096) : ∀ (ds acc : List (Int × Int)) (r : Rd) (rest : List Int), Lft b r (basesF ps ds ++ rest) → (∀ d, d ∈ ds → 0 ≤ idxI ps d.2 ∧ ps.contains d.1 = false) → ∃ r', bsG b ps (ds.map (·.1)) acc r = (acc ++ ds, r') ∧ Lft b r' rest
  | [], acc, r, rest, h, _ => ⟨r, by simp [bsG], h⟩
  | (x, y) :: ds, acc, r, rest, h, hd => by
    have h0 := hd (x, y) List.mem_cons_self
    have hg := idxI_get h0.1
    rw [basesF, List.append_assoc] at h
    obtain ⟨r1, e1, h1⟩ := numR_put (most := 4096) h h0.1 (by omega) (by omega)
    obtain ⟨r2, e2, h2⟩ := bsG_put hp ds (acc ++ [(x, y)]) r1 rest h1 fun d hn => hd d (List.mem_cons_of_mem _ hn)
    refine ⟨r2, ?_, h2⟩
    have hc : ¬ ((ps.length : Int) ≤ idxI ps y ∨ ps.contains x = true) := by
      rintro (h | h)
      · have := hg.2
        simp only at this
        omega
      · rw [h0.2] at h; cases h
    rw [List.map_cons, bsG, e1]
    simp only at hc hg ⊢
    rw [if_neg hc]
    have hgd : ps.getD (idxI ps y).toNat 0 = y := by simp [List.getD, hg.1]
    rw [hgd, e2]
    simp
end Go.Proofs.Ytdkknhpdjcdmfaa.Abs

/- Maps, there and back: what is written is read as what it was. -/
set_option linter.unusedSimpArgs false
set_option linter.unusedVariables false
namespace Go.Proofs.Ytdkknhpdjcdmfaa.Abs
open Go Go.RowKit Go.Proofs

theorem bad_none {ps : List Int} {ds : List (Int × Int)} : (findI (badDer ps) 0 ds).isSome = false ↔ ∀ d, d ∈ ds → ps.contains d.2 = true ∧ ps.contains d.1 = false := by
  have h := findI_any (fun d : Int × Int => !ps.contains d.2 || ps.contains d.1) ds
  have h2 : (findI (badDer ps) 0 ds).isSome = ds.any fun d : Int × Int => !ps.contains d.2 || ps.contains d.1 := h
  rw [h2, List.any_eq_false]
  constructor
  · intro g d hd
    have := g d hd
    rw [Bool.not_eq_true, Bool.or_eq_false_iff, Bool.not_eq_false'] at this
    exact this
  · intro g d hd
    rw [Bool.not_eq_true, Bool.or_eq_false_iff, Bool.not_eq_false']
    exact g d hd

/-- What may be told of a safepoint. -/
structure EntI (sizes : List Int) (e : Ent) : Prop where
  f0 : 0 ≤ e.f
  f1 : e.f < sizes.length
  ps : Ups (sizes.getD e.f.toNat 0) (-1) e.ps
  ds : Ups (sizes.getD e.f.toNat 0) (-1) (e.ds.map (·.1))
  bs : ∀ d, d ∈ e.ds → e.ps.contains d.2 = true ∧ e.ps.contains d.1 = false
theorem entryF_ok {sizes : List Int} {e : Ent} : entryF sizes e = 0 ↔ EntI sizes e := by
  unfold entryF
  constructor
  · intro h
    split at h
    · cases h
    · rename_i h1
      split at h
      · cases h
      · rename_i h2
        split at h
        · rename_i h3
          rw [Bool.and_eq_true, rises_ups, rises_ups] at h3
          rw [Bool.not_eq_true] at h2
          exact ⟨by omega, by omega, h3.1, h3.2, bad_none.1 h2⟩
        · cases h
  · rintro ⟨h1, h2, h3, h4, h5⟩
    rw [if_neg (by omega), bad_none.2 h5, if_neg (by decide), rises_ups.2 h3, rises_ups.2 h4]
    rfl
def EntsI (sizes : List Int) : Int → List Ent → Prop
  | _, [] => True
  | last, e :: es => last < e.n ∧ e.n ≤ 1048576 ∧ EntI sizes e ∧ EntsI sizes e.n es
def aheadN (last : Int) (es : List Ent) (i : Nat) : Int := if i = 0 then last else match es[i - 1]? with | some e => e.n | none => 0
theorem ents_iff {sizes : List Int} : ∀ {last : Int} {es : List Ent}, EntsI sizes last es ↔ ∀ i e, es[i]? = some e → aheadN last es i < e.n ∧ e.n ≤ 1048576 ∧ EntI sizes e
  | last, [] => by simp [EntsI]
  | last, y :: ys => by
    rw [EntsI, ents_iff (last := y.n) (es := ys)]
    constructor
    · rintro ⟨h1, h2, h3, h4⟩ i x hx
      cases i with
      | zero => simp at hx; subst hx; exact ⟨h1, h2, h3⟩
      | succ j =>
        have := h4 j x (by simpa using hx)
        cases j with
        | zero => simpa [aheadN] using this
        | succ k => simpa [aheadN] using this
    · intro h
      have h0 := h 0 y rfl
      refine ⟨by simpa [aheadN] using h0.1, h0.2.1, h0.2.2, fun i x hx => ?_⟩
      have := h (i + 1) x (by simpa using hx)
      cases i with
      | zero => simpa [aheadN] using this
      | succ k => simpa [aheadN] using this

theorem check_iff {m : Mps} : (checkF m).1 = 0 ↔ m.sizes.length ≤ 32 ∧ (∀ n, n ∈ m.sizes → 0 ≤ n ∧ n ≤ 4096) ∧ EntsI m.sizes 0 m.es := by
  have hl : ∀ i, lastN m.es i = aheadN 0 m.es i := fun i => rfl
  unfold checkF
  constructor
  · intro hc
    split at hc
    · cases hc
    · rename_i h1
      split at hc
      · cases hc
      · rename_i h2
        have hsz : ∀ n, n ∈ m.sizes → 0 ≤ n ∧ n ≤ 4096 := by
          intro n hn
          obtain ⟨i, hi⟩ := List.getElem?_of_mem hn
          have := findI_none.1 h2 i n hi
          simp only [badSize, Bool.or_eq_false_iff, decide_eq_false_iff_not] at this
          omega
        refine ⟨by omega, hsz, ?_⟩
        split at hc
        · rename_i i hi
          obtain ⟨_, x, hx, hb, _⟩ := findI_some hi
          simp only [Nat.sub_zero] at hx
          rw [hx] at hc
          simp only [badEnt, Bool.or_eq_true, decide_eq_true_eq] at hb
          simp only at hc
          split at hc
          · cases hc
          · omega
        · rename_i hn
          rw [findI_none] at hn
          rw [ents_iff]
          intro i e he
          have := hn i e he
          simp only [badEnt, Nat.zero_add, Bool.or_eq_false_iff, decide_eq_false_iff_not, hl] at this
          exact ⟨by omega, by omega, entryF_ok.1 (by omega)⟩
  · rintro ⟨h1, h2, h3⟩
    rw [ents_iff] at h3
    have g2 : findI badSize 0 m.sizes = none := findI_none.2 fun i n hn => by
      have := h2 n (List.mem_of_getElem? hn)
      simp only [badSize, Bool.or_eq_false_iff, decide_eq_false_iff_not]
      omega
    have g3 : findI (badEnt m) 0 m.es = none := findI_none.2 fun i e he => by
      have := h3 i e he
      have h5 := entryF_ok.2 this.2.2
      simp only [badEnt, Nat.zero_add, Bool.or_eq_false_iff, decide_eq_false_iff_not, hl]
      omega
    rw [if_neg (by omega), g2]
    simp only
    rw [g3]

theorem idxI_of {ps : List Int} {n : Int} (h : ps.contains n = true) : 0 ≤ idxI ps n := by
  unfold idxI
  split
  · omega
  · rename_i hn
    rw [List.contains_iff_mem] at h
    obtain ⟨i, hi⟩ := List.getElem?_of_mem h
    have := findI_none.1 hn i n hi
    simp at this
theorem size_of {sizes : List Int} (hs : ∀ n, n ∈ sizes → 0 ≤ n ∧ n ≤ 4096) (k : Nat) : 0 ≤ sizes.getD k 0 ∧ sizes.getD k 0 ≤ 4096 := by
  rw [List.getD]
  cases h : sizes[k]? with
  | none => simp
  | some n => simpa using hs n (List.mem_of_getElem? h)

theorem enG_put {b sizes : List Int} (hl : sizes.length ≤ 32) (hs : ∀ n, n ∈ sizes → 0 ≤ n ∧ n ≤ 4096) : ∀ (es acc : List Ent) (last : Int) (r : Rd) (rest : List Int), 0 ≤ last → Lft b r (entsF last es ++ rest) → EntsI sizes last es →
    ∃ r', enG b sizes es.length last acc r = (acc ++ es, r') ∧ Lft b r' rest
  | [], acc, last, r, rest, _, h, _ => ⟨r, by simp [enG], h⟩
  | e :: es, acc, last, r, rest, h0, h, ⟨u1, u2, u3, u4⟩ => by
    simp only [entsF, entF, List.append_assoc] at h
    have hz := size_of hs e.f.toNat
    obtain ⟨r1, e1, h1⟩ := numR_put (most := 1048576) h (by omega) (by omega) (by omega)
    obtain ⟨r2, e2, h2⟩ := numR_put (most := 32) h1 u3.f0 (by have := u3.f1; omega) (by have := u3.f1; omega)
    obtain ⟨r3, e3, h3⟩ := lstR_put hz.1 hz.2 h2 u3.ps
    obtain ⟨r4, e4, h4⟩ := lstR_put hz.1 hz.2 h3 u3.ds
    have hp := ups_len (by omega) u3.ps
    obtain ⟨r5, e5, h5⟩ := bsG_put (by omega) e.ds [] r4 _ h4 fun d hd => ⟨idxI_of (u3.bs d hd).1, (u3.bs d hd).2⟩
    obtain ⟨r6, e6, h6⟩ := enG_put hl hs es (acc ++ [e]) e.n r5 rest (by omega) h5 u4
    refine ⟨r6, ?_, h6⟩
    have hN : entN b last r = (e.n, r1) := by
      rw [entN, e1]
      simp only
      rw [show last + (e.n - last - 1 + 1) = e.n by omega, if_neg (by omega)]
    have hB : entB b (sizes.getD e.f.toNat 0) e.n e.f r2 = (e, r5) := by
      rw [entB, e3]
      simp only
      rw [e4]
      simp only
      rw [e5]
      simp
    rw [List.length_cons, enG, if_pos h.code, hN]
    simp only
    rw [e2]
    simp only
    rw [if_neg (by have := u3.f1; omega), hB]
    simp only
    rw [e6]
    simp

/-- THERE. What is written of maps that may be is read as what they were. -/
theorem read_bytes {m : Mps} (hc : (checkF m).1 = 0) (hn : m.es.length ≤ 1048576) : readF (bytesF m) = (m, 0, 0) := by
  obtain ⟨h1, h2, h3⟩ := check_iff.1 hc
  have h : Lft (bytesF m) ⟨0, 0, 0⟩ (putI m.sizes.length ++ (numsF m.sizes ++ (putI m.es.length ++ (entsF 0 m.es ++ [])))) := ⟨rfl, rfl, by simp [bytesF]⟩
  obtain ⟨r1, e1, g1⟩ := numR_put (most := 32) h (by omega) (by omega) (by omega)
  obtain ⟨r2, e2, g2⟩ := szG_put m.sizes [] r1 _ g1 h2
  obtain ⟨r3, e3, g3⟩ := numR_put (most := 1048576) g2 (by omega) (by omega) (by omega)
  obtain ⟨r4, e4, g4⟩ := enG_put h1 h2 m.es [] 0 r3 [] (by omega) g3 h3
  have he : endR (bytesF m) r4 = r4 := by
    have := List.drop_eq_nil_iff.1 g4.left
    rw [endR, if_neg (by omega)]
  unfold readF
  rw [e1]
  simp only [Int.toNat_natCast]
  rw [e2]
  simp only [List.nil_append]
  rw [e3]
  simp only [Int.toNat_natCast]
  rw [e4]
  simp only [List.nil_append]
  rw [he, if_pos g4.code]
end Go.Proofs.Ytdkknhpdjcdmfaa.Abs
