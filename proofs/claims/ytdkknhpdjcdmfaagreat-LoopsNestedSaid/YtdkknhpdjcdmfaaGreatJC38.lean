/- YtdkknhpdjcdmfaaGreatJC38: texts that follow each other, as one. -/
import Derived.Test.YtdkknhpdjcdmfaaGreatJC36
import Derived.Test.YtdkknhpdjcdmfaaGreatJC37
import Derived.Test.YtdkknhpdjcdmfaaGreatJC29
import Derived.Test.YtdkknhpdjcdmfaaGreatJC32
/- Lists of lists that a call makes and grows: a row of slices, and a row for each. -/
set_option linter.unusedSimpArgs false
set_option linter.unusedVariables false
namespace Go.Proofs.YtdkknhpdjcdmfaaGreat.Abs
open Go Go.RowKit Go.Proofs

/-- A row for each list. -/
def fam (rows : List (List Int)) : Heap := rows.map fun l => some (.row 1 (intsOf l))
/-- The row of slices that lead to them. -/
def outR (b : Nat) : Nat → List (List Int) → List (List Leaf)
  | _, [] => []
  | k, l :: ls => [.sl (b + k) 1 l.length 0 l.length] :: outR b (k + 1) ls
def idsR (b : Nat) : Nat → Nat → List (Option Nat)
  | _, 0 => []
  | k, n + 1 => some (b + k) :: idsR b (k + 1) n
/-- Lists of lists, told as a tree. -/
def listsOf (ls : List (List Int)) : List (List Leaf) := ls.map fun l => [.isl (intsOf l)]
@[simp] theorem listsOf_length (ls : List (List Int)) : (listsOf ls).length = ls.length := by simp [listsOf]
@[simp] theorem listsOf_get (ls : List (List Int)) (i : Nat) : (listsOf ls)[i]? = (ls[i]?).map fun l => [.isl (intsOf l)] := by simp [listsOf]
@[simp] theorem listsOf_plain (ls : List (List Int)) : plainR (listsOf ls) = true := plainR_map (fun _ => rfl) ls
@[simp] theorem listsOf_tree (ls : List (List Int)) : treeR (listsOf ls) = true := treeR_map (fun _ => rfl) ls
@[simp] theorem sized_lists (ls : List (List Int)) : sized 1 (listsOf ls) = true := sized_map (n := 1) (f := fun l : List Int => [Leaf.isl (intsOf l)]) (fun _ => rfl) ls
@[simp] theorem listsOf_nil : listsOf [] = [] := rfl
theorem listsOf_snoc (ls : List (List Int)) (l : List Int) : listsOf ls ++ [[.isl (intsOf l)]] = listsOf (ls ++ [l]) := by simp [listsOf]

@[simp] theorem fam_length (rows : List (List Int)) : (fam rows).length = rows.length := by simp [fam]
@[simp] theorem outR_length (b : Nat) : ∀ (k : Nat) (ls : List (List Int)), (outR b k ls).length = ls.length
  | _, [] => rfl
  | k, l :: ls => by simp [outR, outR_length b (k + 1) ls]
@[simp] theorem idsR_length (b : Nat) : ∀ (k n : Nat), (idsR b k n).length = n
  | _, 0 => rfl
  | k, n + 1 => by simp [idsR, idsR_length b (k + 1) n]
@[simp] theorem outR_get (b : Nat) : ∀ (k : Nat) (ls : List (List Int)) (i : Nat), (outR b k ls)[i]? = (ls[i]?).map fun l => [.sl (b + (i + k)) 1 l.length 0 l.length]
  | _, [], i => by simp [outR]
  | k, l :: ls, 0 => by simp [outR]
  | k, l :: ls, i + 1 => by
    simp only [outR, List.getElem?_cons_succ, outR_get b (k + 1) ls i]
    rw [show i + (k + 1) = i + 1 + k by omega]
theorem outR_set (b : Nat) : ∀ (k : Nat) (ls : List (List Int)) (i : Nat) (l : List Int), (outR b k ls).set i [.sl (b + (i + k)) 1 l.length 0 l.length] = outR b k (ls.set i l)
  | _, [], i, l => by simp [outR]
  | k, x :: ls, 0, l => by simp [outR]
  | k, x :: ls, i + 1, l => by
    simp only [outR, List.set_cons_succ]
    rw [← outR_set b (k + 1) ls i l, show i + (k + 1) = i + 1 + k by omega]
theorem fam_set (rows : List (List Int)) (i : Nat) (l : List Int) : (fam rows).set i (some (.row 1 (intsOf l))) = fam (rows.set i l) := by simp [fam, List.map_set]
theorem fam_get (rows : List (List Int)) (i : Nat) : (fam rows)[i]? = (rows[i]?).map fun l => some (.row 1 (intsOf l)) := by simp [fam]

/-- What stands at a place of a row of rows. -/
theorem row_fam (rows : List (List Int)) (g : Heap) {i : Nat} {l : List Int} (hi : rows[i]? = some l) (sz : Nat) : rowAt (fam rows ++ g) i sz = if l.length = sz then some (1, intsOf l) else none := by
  have hlt := (List.getElem?_eq_some_iff.1 hi).1
  have e : (fam rows ++ g)[i]? = some (some (.row 1 (intsOf l))) := by rw [List.getElem?_append_left (by simpa using hlt), fam_get, hi]; rfl
  simp [rowAt, e]
theorem row_fam0 (rows : List (List Int)) {i : Nat} {l : List Int} (hi : rows[i]? = some l) (sz : Nat) : rowAt (fam rows) i sz = if l.length = sz then some (1, intsOf l) else none := by
  have := row_fam rows [] hi sz
  simpa using this
theorem row_gar {rows : List (List Int)} {n : Nat} (hn : rows.length = n) (g : Heap) (sz : Nat) : rowAt (fam rows ++ g) n sz = rowAt g 0 sz := by
  subst hn
  simp [rowAt, List.getElem?_append_right]
theorem set_fam (rows : List (List Int)) (g : Heap) {i : Nat} (hi : i < rows.length) (l : List Int) : (fam rows ++ g).set i (some (.row 1 (intsOf l))) = fam (rows.set i l) ++ g := by
  rw [List.set_append_left _ _ (by simpa using hi), fam_set]

theorem cells_outR {n0 b e : Nat} (hb : n0 ≤ b) : ∀ (k : Nat) (ls : List (List Int)), (outR b k ls).flatMap (cellIds n0 [e + 1]) = idsR b k ls.length
  | _, [] => rfl
  | k, l :: ls => by
    have h1 : n0 ≤ b + k := by omega
    have h2 := cells_outR (e := e) hb (k + 1) ls
    simp only [outR, List.flatMap_cons, h2]
    simp [cellIds, ownId, refId, h1, idsR]
theorem canon_fam (n0 : Nat) (g : Heap) : ∀ (p : Nat) (rows : List (List Int)), Canon n0 p (fam rows ++ g) (idsR n0 p rows.length)
  | _, [] => by simp [idsR, Canon]
  | p, l :: ls => by
    have := canon_fam n0 g (p + 1) ls
    simp only [List.length_cons, idsR]
    exact ⟨rfl, rfl, this⟩
theorem noNil_outR {b e : Nat} : ∀ (k : Nat) (ls : List (List Int)), ∀ cs, cs ∈ outR b k ls → noNil [e + 1] cs = true ∧ cs.length ≤ 1
  | _, [], cs, h => by simp [outR] at h
  | k, l :: ls, cs, h => by
    simp only [outR, List.mem_cons] at h
    rcases h with rfl | h
    · exact ⟨rfl, Nat.le_refl _⟩
    · exact noNil_outR (k + 1) ls cs h
theorem keep_outR {H : Heap} {n0 m b : Nat} : ∀ (k : Nat) (ls : List (List Int)), (∀ i, i < ls.length → b + (k + i) < n0 + m ∧ isObj H[b + (k + i)]? = true) → keepR H n0 m (outR b k ls) = true
  | _, [], _ => rfl
  | k, l :: ls, h => by
    have h0 := h 0 (by simp)
    have h1 := keep_outR (k + 1) ls fun i hi => by
      have := h (i + 1) (by simpa using hi)
      rw [show k + 1 + i = k + (i + 1) by omega]
      exact this
    simp only [keepR, outR, List.all_cons, Bool.and_eq_true] at h1 ⊢
    refine ⟨?_, h1⟩
    rw [Nat.add_zero] at h0
    simp only [keepC, List.all_cons, List.all_nil, keepL, Bool.and_true]
    rw [h0.2, decide_eq_true h0.1]
    simp
theorem keep_fam {H : Heap} {n0 m : Nat} (g : Heap) : ∀ (rows : List (List Int)), KeepT H n0 m rows.length (fam rows ++ g)
  | [] => trivial
  | l :: ls => by
    refine ⟨?_, keep_fam g ls⟩
    show keepR H n0 m (intsOf l) = true
    simp [keepR, intsOf, keepC, keepL]

/-- Leads a value to no object of a call's own? -/
def plL : Leaf → Bool
  | .ptr .. => false
  | .sl .. => false
  | .map _ => false
  | .fn _ caps => caps.all treeL
  | _ => true
def plV : V → Bool
  | .one l => plL l
  | .agg cs => cs.all plL
  | .junk => true
  | .tup _ => false
@[simp] theorem plL_int (k : IntKind) (n : Int) : plL (.int k n) = true := rfl
@[simp] theorem plL_bool (b : Bool) : plL (.bool b) = true := rfl
@[simp] theorem plL_str (s : List UInt8) : plL (.str s) = true := rfl
@[simp] theorem plL_isl (es : List (List Leaf)) : plL (.isl es) = true := rfl
@[simp] theorem plL_iptr (cs : List Leaf) (off : Nat) : plL (.iptr cs off) = true := rfl
@[simp] theorem plL_nils : plL .nils = true := rfl
@[simp] theorem plV_one (l : Leaf) : plV (.one l) = plL l := rfl
@[simp] theorem plV_junk : plV .junk = true := rfl
theorem plL_keep {H : Heap} {n0 m : Nat} {l : Leaf} (h : plL l = true) : keepL H n0 m l = true := by
  cases l <;> first | rfl | (simp [plL] at h; done) | exact h
theorem plV_keep {H : Heap} {n0 m : Nat} {v : V} (h : plV v = true) : keepV H n0 m v = true := by
  cases v with
  | one l => exact plL_keep h
  | agg cs => exact List.all_eq_true.2 fun l hl => plL_keep (List.all_eq_true.1 h l hl)
  | junk => rfl
  | tup vs => cases h
theorem plL_fz {H : Heap} {n0 : Nat} {L : List (Option Nat)} {l : Leaf} (h : plL l = true) : fzT H n0 L l = some l := by
  cases l with
  | fn f caps =>
    show (mapO (fzR H n0 L) caps).map (Leaf.fn f) = _
    rw [mapO_id fun x hx => ?_]
    · rfl
    · have hx' := List.all_eq_true.1 h x hx
      cases x <;> first | rfl | (simp [treeL, plainL] at hx'; done)
  | ptr => cases h
  | sl => cases h
  | map => cases h
  | _ => rfl
theorem plV_fz {H : Heap} {n0 : Nat} {L : List (Option Nat)} {v : V} (h : plV v = true) : fzV H n0 L v = some v := by
  cases v with
  | one l => show (fzT _ _ _ l).map V.one = _; rw [plL_fz h]; rfl
  | agg cs => show (mapO (fzT _ _ _) cs).map V.agg = _; rw [mapO_id fun x hx => plL_fz (List.all_eq_true.1 h x hx)]; rfl
  | junk => rfl
  | tup vs => cases h

/-- What is carried is plain, but the last one, a list of lists. -/
def FamK (T : Tmps) (v : V) : List (Nat × Kd) → Prop
  | [] => False
  | [e] => e.2 = .s 1 [2] ∧ tget T e.1 = v
  | e :: K => (e.2 = .p ∧ plV (tget T e.1) = true) ∧ FamK T v K
def famT (T : Tmps) (v : V) : List (Nat × Kd) → Tmps
  | [] => []
  | [e] => [(e.1, v)]
  | e :: K => (e.1, tget T e.1) :: famT T v K
theorem famK_one (T : Tmps) (v : V) (i : Nat) (k : Kd) : FamK T v [(i, k)] = (k = .s 1 [2] ∧ tget T i = v) := rfl
theorem famK_two (T : Tmps) (v : V) (i : Nat) (k : Kd) (e : Nat × Kd) (K : List (Nat × Kd)) : FamK T v ((i, k) :: e :: K) = ((k = .p ∧ plV (tget T i) = true) ∧ FamK T v (e :: K)) := rfl
theorem famT_one (T : Tmps) (v : V) (i : Nat) (k : Kd) : famT T v [(i, k)] = [(i, v)] := rfl
theorem famT_two (T : Tmps) (v : V) (i : Nat) (k : Kd) (e : Nat × Kd) (K : List (Nat × Kd)) : famT T v ((i, k) :: e :: K) = (i, tget T i) :: famT T v (e :: K) := rfl
theorem famK_kdL {H : Heap} {n0 : Nat} {T : Tmps} {v : V} : ∀ {K : List (Nat × Kd)}, FamK T v K → kdL H n0 T K = rootOf n0 v :: insideIds H n0 [2] (rootOf n0 v)
  | [], h => h.elim
  | [e], h => by obtain ⟨h1, h2⟩ := h; simp [kdL, h1, h2, kdIds]
  | e :: e' :: K, h => by
    have := famK_kdL (H := H) (n0 := n0) h.2
    rw [kdL, h.1.1, this]
    rfl
theorem famK_kdAll {H : Heap} {n0 : Nat} {L : List (Option Nat)} {T : Tmps} {v v' : V} {o : Heap} : ∀ {K : List (Nat × Kd)} (p : Nat), FamK T v K → kdNew H n0 L p v (.s 1 [2]) = some (v', o) → kdAll H n0 L T p K = some (famT T v' K, o)
  | [], p, h, _ => h.elim
  | [e], p, h, e1 => by
    obtain ⟨h1, h2⟩ := h
    unfold kdAll
    rw [h1, h2, e1]
    simp [kdAll, famT]
  | e :: e' :: K, p, h, e1 => by
    have := famK_kdAll (L := L) p h.2 e1
    unfold kdAll
    rw [h.1.1]
    simp only [kdNew, plV_fz h.1.2, List.length_nil, Nat.add_zero]
    rw [this]
    rfl
theorem famT_id {T : Tmps} {v : V} : ∀ {K : List (Nat × Kd)}, FamK T v K → famT T v K = K.map fun e => (e.1, tget T e.1)
  | [], h => h.elim
  | [e], h => by simp [famT, h.2]
  | e :: e' :: K, h => by
    have := famT_id h.2
    show (e.1, tget T e.1) :: famT T v (e' :: K) = _
    rw [this]
    rfl
theorem famK_keep {H : Heap} {n0 m : Nat} {T : Tmps} {v : V} (hv : keepV H n0 m v = true) (ho : KdOK H n0 v (.s 1 [2])) : ∀ {K : List (Nat × Kd)}, FamK T v K → KeepK H n0 m T K
  | [], h => h.elim
  | [e], h => by
    obtain ⟨h1, h2⟩ := h
    refine ⟨⟨by rw [h2]; exact hv, ?_⟩, trivial⟩
    rw [h1, h2]
    exact ho
  | e :: e' :: K, h => by
    refine ⟨⟨plV_keep h.1.2, ?_⟩, famK_keep hv ho h.2⟩
    rw [h.1.1]
    trivial

/-- A list of lists in its place stays so; what is not carried is left out. -/
theorem tidy_fam {h g : Heap} {T : Tmps} {ws : List Nat} {K : List (Nat × Kd)} {rows : List (List Int)} {n : Nat} (hn : rows.length = n) (hK : FamK T (.one (.sl h.length 1 n 0 n)) K) (hw : wsOf h.length ws = []) :
    tidy h.length K ⟨T, h ++ (some (.row 1 (outR h.length 1 rows)) :: (fam rows ++ g)), ws⟩ = ⟨famT T (.one (.sl h.length 1 n 0 n)) K, h ++ (some (.row 1 (outR h.length 1 rows)) :: fam rows), []⟩ := by
  subst hn
  have hat : (h ++ (some (AO.row 1 (outR h.length 1 rows)) :: (fam rows ++ g)))[h.length]? = some (some (.row 1 (outR h.length 1 rows))) := by
    rw [List.getElem?_append_right (Nat.le_refl _), Nat.sub_self]; rfl
  have hin : insideIds (h ++ (some (AO.row 1 (outR h.length 1 rows)) :: (fam rows ++ g))) h.length [2] (some h.length) = idsR h.length 1 rows.length := by
    simp only [insideIds, hat]
    exact cells_outR (Nat.le_refl _) 1 rows
  have hroot : rootOf h.length (.one (.sl h.length 1 rows.length 0 rows.length)) = some h.length := by simp [rootOf, ownId, refId]
  have hL : kdL (h ++ (some (AO.row 1 (outR h.length 1 rows)) :: (fam rows ++ g))) h.length T K = idsR h.length 0 (rows.length + 1) := by
    rw [famK_kdL hK, hroot, hin]
    rfl
  have hc : Canon h.length 0 (some (AO.row 1 (outR h.length 1 rows)) :: (fam rows ++ g)) (idsR h.length 0 (rows.length + 1)) := ⟨rfl, rfl, canon_fam _ _ _ _⟩
  have hobj : ∀ i, i < rows.length + 1 → isObj (h ++ (some (AO.row 1 (outR h.length 1 rows)) :: (fam rows ++ g)))[h.length + i]? = true := by
    intro i hi
    rw [List.getElem?_append_right (by omega), Nat.add_sub_cancel_left]
    cases i with
    | zero => rfl
    | succ i =>
      rw [List.getElem?_cons_succ, List.getElem?_append_left (by simp; omega), fam_get, List.getElem?_eq_getElem (by omega)]
      rfl
  have key := tidy_keep (ws := ws) hL hc (famK_keep (v := .one (.sl h.length 1 rows.length 0 rows.length)) ?_ ⟨by simp, ?_⟩ hK) ?_ hw
  · rw [key, famT_id hK]
    simp
  · have := hobj 0 (by omega)
    rw [Nat.add_zero] at this
    simp only [keepV, keepL, idsR_length, this]
    simp
  · rw [hroot]
    exact ⟨1, _, hat, fun cs hcs => noNil_outR 1 rows cs hcs⟩
  · rw [idsR_length]
    refine ⟨?_, ?_⟩
    · refine keep_outR 1 rows fun i hi => ⟨by omega, hobj (1 + i) (by omega)⟩
    · have := keep_fam (H := h ++ (some (AO.row 1 (outR h.length 1 rows)) :: (fam rows ++ g))) (n0 := h.length) (m := rows.length + 1) g rows
      exact this
theorem tidy_fam' {h : Heap} {T : Tmps} {ws : List Nat} {K : List (Nat × Kd)} {rows : List (List Int)} {n : Nat} (hn : rows.length = n) (hK : FamK T (.one (.sl h.length 1 n 0 n)) K) (hw : wsOf h.length ws = []) :
    tidy h.length K ⟨T, h ++ (some (.row 1 (outR h.length 1 rows)) :: fam rows), ws⟩ = ⟨famT T (.one (.sl h.length 1 n 0 n)) K, h ++ (some (.row 1 (outR h.length 1 rows)) :: fam rows), []⟩ := by
  have := tidy_fam (g := []) hn hK hw
  simpa using this

/-- A list of empty lists, just made. -/
theorem tidy_fam0 {h t : Heap} {T : Tmps} {ws : List Nat} {K : List (Nat × Kd)} {n j : Nat} (hj : t[j]? = some (some (.row 1 (List.replicate n [.nils])))) (hK : FamK T (.one (.sl (h.length + j) 1 n 0 n)) K) (hw : wsOf h.length ws = []) :
    tidy h.length K ⟨T, h ++ t, ws⟩ = ⟨famT T (.one (.sl h.length 1 n 0 n)) K, h ++ (some (.row 1 (outR h.length 1 (List.replicate n []))) :: fam (List.replicate n [])), []⟩ := by
  have hat : (h ++ t)[h.length + j]? = some (some (.row 1 (List.replicate n [.nils]))) := by
    rw [List.getElem?_append_right (by omega), Nat.add_sub_cancel_left, hj]
  have hroot : rootOf h.length (.one (.sl (h.length + j) 1 n 0 n)) = some (h.length + j) := by simp [rootOf, ownId, refId]
  have hfl : ∀ n, (List.replicate n [Leaf.nils]).flatMap (cellIds h.length [2]) = List.replicate n none := by
    intro n
    induction n with
    | zero => rfl
    | succ n ih => rw [List.replicate_succ, List.flatMap_cons, ih]; simp [cellIds, ownId, refId, List.replicate_succ]
  have hL : kdL (h ++ t) h.length T K = some (h.length + j) :: List.replicate n none := by
    rw [famK_kdL hK, hroot]
    simp only [insideIds, hat, hfl]
  have hrows : ∀ (n p : Nat) (L : List (Option Nat)), newRows (h ++ t) h.length L [2] p (List.replicate n [.nils]) = some (outR h.length p (List.replicate n []), fam (List.replicate n [])) := by
    intro n
    induction n with
    | zero => intro p L; rfl
    | succ n ih =>
      intro p L
      rw [List.replicate_succ]
      simp only [newRows, newCells, List.length_cons, List.length_nil, ih]
      simp [outR, fam, List.replicate_succ, mapO]
  have hnew : kdNew (h ++ t) h.length (some (h.length + j) :: List.replicate n none) 0 (.one (.sl (h.length + j) 1 n 0 n)) (.s 1 [2]) = some (.one (.sl h.length 1 n 0 n), some (.row 1 (outR h.length 1 (List.replicate n []))) :: fam (List.replicate n [])) := by
    simp only [kdNew, hroot, newRoot, hat, Nat.zero_add, hrows]
    have : fzV (h ++ t) h.length (some (h.length + j) :: List.replicate n none) (.one (.sl (h.length + j) 1 n 0 n)) = some (.one (.sl h.length 1 n 0 n)) := by
      show (fzT _ _ _ _).map V.one = _
      rw [fzT_sl, if_pos (by omega)]
      have : placeOf (h.length + j) (some (h.length + j) :: List.replicate n none) h.length = some h.length := by simp [placeOf, placeAt]
      rw [this]
      rfl
    rw [this]
  have hok : okL h.length (some (h.length + j) :: List.replicate n none) = true := by
    have h1 : ∀ n, okL h.length (List.replicate n none) = true := by
      intro n
      induction n with
      | zero => rfl
      | succ n ih => rw [List.replicate_succ]; exact ih
    simp only [okL, h1]
    simp
  unfold tidy tidyO
  simp only [hL, hok, if_true, famK_kdAll 0 hK hnew, hw, fzH, List.take_left']

/-- Lists of lists, told as a tree. -/
theorem fz_outR {H : Heap} {n0 b k : Nat} (hb : n0 ≤ b) : ∀ (p : Nat) (ls : List (List Int)), (∀ i l, ls[i]? = some l → rowAt H (b + (p + i)) l.length = some (1, intsOf l)) → mapO (mapO (fzL H n0 [] (k + 1 + 1))) (outR b p ls) = some (listsOf ls)
  | _, [], _ => rfl
  | p, l :: ls, h => by
    have h0 := h 0 l rfl
    rw [Nat.add_zero] at h0
    have h1 := fz_outR (k := k) hb (p + 1) ls fun i x hx => by
      have := h (i + 1) x (by simpa using hx)
      rw [show p + 1 + i = p + (i + 1) by omega]
      exact this
    have hg : goes n0 [] (b + p) = true := by simp [goes, placeOf, placeAt]; omega
    simp only [outR, mapO]
    rw [fzL_whole, if_pos hg, h0, h1]
    simp [wholeK, fzRowsL_true, listsOf]
theorem frz_outR {h g : Heap} {x : Option AO} {k : Nat} (rows : List (List Int)) : fzRowsL (h ++ (x :: (fam rows ++ g))) h.length [] (k + 1) (outR h.length 1 rows) (treeR (outR h.length 1 rows)) = some (listsOf rows) := by
  rw [← rowsL_eq]
  refine fz_outR (Nat.le_refl _) 1 rows fun i l hl => ?_
  rw [row_at, show 1 + i = i + 1 by omega, row_succ, row_fam rows g hl]
  simp
theorem frz_outR' {h : Heap} {x : Option AO} {k : Nat} (rows : List (List Int)) : fzRowsL (h ++ (x :: fam rows)) h.length [] (k + 1) (outR h.length 1 rows) (treeR (outR h.length 1 rows)) = some (listsOf rows) := by
  have := frz_outR (h := h) (g := []) (x := x) (k := k) rows
  simpa using this
end Go.Proofs.YtdkknhpdjcdmfaaGreat.Abs

/- What makeSlice makes, type by type. Printed by tm.py. -/
namespace Go.Proofs.YtdkknhpdjcdmfaaGreat.Abs
open Go Go.RowKit Go.Proofs
theorem op_makeSlice {P : Program} {H : Heap} {cf : CF} {dst : Option Nat} {ty : TypeId} {pos : String} {after : Array Edge} {guard : Option (Nat × Bool)} {T : Tmps} (t : TypeId) (l c : Operand) : absOp P cf none T H ⟨dst, .makeSlice t l c, ty, pos, after, guard⟩ = makeSliceV P none H t (ev T l) (ev T c) := rfl
theorem mks22 {H : Heap} (k k' : IntKind) {l c : Nat} (hl : l ≤ c) (hr : c * 80 ≤ 140737488355328) : makeSliceV Tryz.prog none H 22 (.one (.int k (l : Nat))) (.one (.int k' (c : Nat))) = some (.one (.sl H.length 5 l 0 l), H ++ [some (.row 5 (List.replicate l [.str [], .nils, .int .i64 0, .nils, .int .i64 0]))], []) := make_room E22 k k' hl hr
theorem mks25 {H : Heap} (k k' : IntKind) {l c : Nat} (hl : l ≤ c) (hr : c * 8 ≤ 140737488355328) : makeSliceV Tryz.prog none H 25 (.one (.int k (l : Nat))) (.one (.int k' (c : Nat))) = some (.one (.sl H.length 1 l 0 l), H ++ [some (.row 1 (List.replicate l [.int .i64 0]))], []) := make_room E25 k k' hl hr
theorem mks41 {H : Heap} (k k' : IntKind) {l c : Nat} (hl : l ≤ c) (hr : c * 8 ≤ 140737488355328) : makeSliceV Tryz.prog none H 41 (.one (.int k (l : Nat))) (.one (.int k' (c : Nat))) = some (.one (.sl H.length 1 l 0 l), H ++ [some (.row 1 (List.replicate l [.int .i64 0]))], []) := make_room E41 k k' hl hr
theorem mks42 {H : Heap} (k k' : IntKind) {l c : Nat} (hl : l ≤ c) (hr : c * 24 ≤ 140737488355328) : makeSliceV Tryz.prog none H 42 (.one (.int k (l : Nat))) (.one (.int k' (c : Nat))) = some (.one (.sl H.length 1 l 0 l), H ++ [some (.row 1 (List.replicate l [.nils]))], []) := make_room E42 k k' hl hr
theorem mks49 {H : Heap} (k k' : IntKind) {l c : Nat} (hl : l ≤ c) (hr : c * 24 ≤ 140737488355328) : makeSliceV Tryz.prog none H 49 (.one (.int k (l : Nat))) (.one (.int k' (c : Nat))) = some (.one (.sl H.length 1 l 0 l), H ++ [some (.row 1 (List.replicate l [.nils]))], []) := make_room E49 k k' hl hr
theorem mks52 {H : Heap} (k k' : IntKind) {l c : Nat} (hl : l ≤ c) (hr : c * 104 ≤ 140737488355328) : makeSliceV Tryz.prog none H 52 (.one (.int k (l : Nat))) (.one (.int k' (c : Nat))) = some (.one (.sl H.length 8 l 0 l), H ++ [some (.row 8 (List.replicate l [.int .i64 0, .int .i64 0, .int .i64 0, .int .i64 0, .nils, .nils, .str [], .int .i64 0]))], []) := make_room E52 k k' hl hr
theorem mks58 {H : Heap} (k k' : IntKind) {l c : Nat} (hl : l ≤ c) (hr : c * 16 ≤ 140737488355328) : makeSliceV Tryz.prog none H 58 (.one (.int k (l : Nat))) (.one (.int k' (c : Nat))) = some (.one (.sl H.length 2 l 0 l), H ++ [some (.row 2 (List.replicate l [.int .i64 0, .int .i64 0]))], []) := make_room E58 k k' hl hr
theorem mks63 {H : Heap} (k k' : IntKind) {l c : Nat} (hl : l ≤ c) (hr : c * 128 ≤ 140737488355328) : makeSliceV Tryz.prog none H 63 (.one (.int k (l : Nat))) (.one (.int k' (c : Nat))) = some (.one (.sl H.length 9 l 0 l), H ++ [some (.row 9 (List.replicate l [.str [], .nils, .int .i64 0, .nils, .int .i64 0, .nils, .int .i64 0, .int .i64 0, .int .i64 0]))], []) := make_room E63 k k' hl hr
theorem mks64 {H : Heap} (k k' : IntKind) {l c : Nat} (hl : l ≤ c) (hr : c * 40 ≤ 140737488355328) : makeSliceV Tryz.prog none H 64 (.one (.int k (l : Nat))) (.one (.int k' (c : Nat))) = some (.one (.sl H.length 3 l 0 l), H ++ [some (.row 3 (List.replicate l [.int .i64 0, .int .i64 0, .nils]))], []) := make_room E64 k k' hl hr
theorem mks68 {H : Heap} (k k' : IntKind) {l c : Nat} (hl : l ≤ c) (hr : c * 32 ≤ 140737488355328) : makeSliceV Tryz.prog none H 68 (.one (.int k (l : Nat))) (.one (.int k' (c : Nat))) = some (.one (.sl H.length 4 l 0 l), H ++ [some (.row 4 (List.replicate l [.int .i64 0, .int .i64 0, .int .i64 0, .int .i64 0]))], []) := make_room E68 k k' hl hr
theorem mks81 {H : Heap} (k k' : IntKind) {l c : Nat} (hl : l ≤ c) (hr : c * 64 ≤ 140737488355328) : makeSliceV Tryz.prog none H 81 (.one (.int k (l : Nat))) (.one (.int k' (c : Nat))) = some (.one (.sl H.length 4 l 0 l), H ++ [some (.row 4 (List.replicate l [.int .i64 0, .nils, .nils, .int .i64 0]))], []) := make_room E81 k k' hl hr
theorem mks95 {H : Heap} (k k' : IntKind) {l c : Nat} (hl : l ≤ c) (hr : c * 24 ≤ 140737488355328) : makeSliceV Tryz.prog none H 95 (.one (.int k (l : Nat))) (.one (.int k' (c : Nat))) = some (.one (.sl H.length 1 l 0 l), H ++ [some (.row 1 (List.replicate l [.nils]))], []) := make_room E95 k k' hl hr
theorem mks111 {H : Heap} (k k' : IntKind) {l c : Nat} (hl : l ≤ c) (hr : c * 1 ≤ 140737488355328) : makeSliceV Tryz.prog none H 111 (.one (.int k (l : Nat))) (.one (.int k' (c : Nat))) = some (.one (.sl H.length 1 l 0 l), H ++ [some (.row 1 (List.replicate l [.bool false]))], []) := make_room E111 k k' hl hr
theorem mks123 {H : Heap} (k k' : IntKind) {l c : Nat} (hl : l ≤ c) (hr : c * 24 ≤ 140737488355328) : makeSliceV Tryz.prog none H 123 (.one (.int k (l : Nat))) (.one (.int k' (c : Nat))) = some (.one (.sl H.length 3 l 0 l), H ++ [some (.row 3 (List.replicate l [.int .i64 0, .int .i64 0, .int .i64 0]))], []) := make_room E123 k k' hl hr
theorem mks134 {H : Heap} (k k' : IntKind) {l c : Nat} (hl : l ≤ c) (hr : c * 16 ≤ 140737488355328) : makeSliceV Tryz.prog none H 134 (.one (.int k (l : Nat))) (.one (.int k' (c : Nat))) = some (.one (.sl H.length 2 l 0 l), H ++ [some (.row 2 (List.replicate l [.int .i64 0, .int .i64 0]))], []) := make_room E134 k k' hl hr
theorem mks143 {H : Heap} (k k' : IntKind) {l c : Nat} (hl : l ≤ c) (hr : c * 24 ≤ 140737488355328) : makeSliceV Tryz.prog none H 143 (.one (.int k (l : Nat))) (.one (.int k' (c : Nat))) = some (.one (.sl H.length 2 l 0 l), H ++ [some (.row 2 (List.replicate l [.str [], .int .i64 0]))], []) := make_room E143 k k' hl hr
theorem mks163 {H : Heap} (k k' : IntKind) {l c : Nat} (hl : l ≤ c) (hr : c * 24 ≤ 140737488355328) : makeSliceV Tryz.prog none H 163 (.one (.int k (l : Nat))) (.one (.int k' (c : Nat))) = some (.one (.sl H.length 3 l 0 l), H ++ [some (.row 3 (List.replicate l [.int .i64 0, .int .i64 0, .int .i64 0]))], []) := make_room E163 k k' hl hr
theorem mks180 {H : Heap} (k k' : IntKind) {l c : Nat} (hl : l ≤ c) (hr : c * 24 ≤ 140737488355328) : makeSliceV Tryz.prog none H 180 (.one (.int k (l : Nat))) (.one (.int k' (c : Nat))) = some (.one (.sl H.length 3 l 0 l), H ++ [some (.row 3 (List.replicate l [.int .i64 0, .int .i64 0, .bool false]))], []) := make_room E180 k k' hl hr
theorem mks261 {H : Heap} (k k' : IntKind) {l c : Nat} (hl : l ≤ c) (hr : c * 1 ≤ 140737488355328) : makeSliceV Tryz.prog none H 261 (.one (.int k (l : Nat))) (.one (.int k' (c : Nat))) = some (.one (.sl H.length 1 l 0 l), H ++ [some (.row 1 (List.replicate l [.int .u8 0]))], []) := make_room E261 k k' hl hr
theorem mks282 {H : Heap} (k k' : IntKind) {l c : Nat} (hl : l ≤ c) (hr : c * 16 ≤ 140737488355328) : makeSliceV Tryz.prog none H 282 (.one (.int k (l : Nat))) (.one (.int k' (c : Nat))) = some (.one (.sl H.length 1 l 0 l), H ++ [some (.row 1 (List.replicate l [.str []]))], []) := make_room E282 k k' hl hr
attribute [simp] op_makeSlice mks22 mks25 mks41 mks42 mks49 mks52 mks58 mks63 mks64 mks68 mks81 mks95 mks111 mks123 mks134 mks143 mks163 mks180 mks261 mks282
end Go.Proofs.YtdkknhpdjcdmfaaGreat.Abs

/- Functions of the program's own kind, as the machine holds them; to which blocks one goes. -/
set_option linter.unusedSimpArgs false
set_option linter.unusedVariables false
namespace Go.Proofs.YtdkknhpdjcdmfaaGreat.Abs
open Go Go.RowKit Go.Proofs

structure Ins where
  op : Int
  id : Int
  n : Int
  ty : Int
  args : List Int
  to : List Int
  name : List UInt8
  at_ : Int
structure Fn where
  name : List UInt8
  params : List Int
  ret : Int
  blocks : List (List Ins)
  at_ : Int
def encIns (x : Ins) : List Leaf := [.int .i64 x.op, .int .i64 x.id, .int .i64 x.n, .int .i64 x.ty, .isl (intsOf x.args), .isl (intsOf x.to), .str x.name, .int .i64 x.at_]
def codeOf (l : List Ins) : List (List Leaf) := l.map encIns
def blksOf (bs : List (List Ins)) : List (List Leaf) := bs.map fun l => [.isl (codeOf l)]
def encFn (f : Fn) : List Leaf := [.str f.name, .isl (intsOf f.params), .int .i64 f.ret, .isl (blksOf f.blocks), .int .i64 f.at_]
@[simp] theorem codeOf_length (l : List Ins) : (codeOf l).length = l.length := by simp [codeOf]
@[simp] theorem codeOf_get (l : List Ins) (i : Nat) : (codeOf l)[i]? = (l[i]?).map encIns := by simp [codeOf]
@[simp] theorem codeOf_plain (l : List Ins) : plainR (codeOf l) = true := plainR_map (fun _ => rfl) l
@[simp] theorem codeOf_tree (l : List Ins) : treeR (codeOf l) = true := treeR_map (fun _ => rfl) l
@[simp] theorem blksOf_length (l : List (List Ins)) : (blksOf l).length = l.length := by simp [blksOf]
@[simp] theorem blksOf_get (l : List (List Ins)) (i : Nat) : (blksOf l)[i]? = (l[i]?).map fun l => [.isl (codeOf l)] := by simp [blksOf]
@[simp] theorem blksOf_plain (l : List (List Ins)) : plainR (blksOf l) = true := plainR_map (fun _ => rfl) l
@[simp] theorem blksOf_tree (l : List (List Ins)) : treeR (blksOf l) = true := treeR_map (fun _ => rfl) l
@[simp] theorem encFn_plain (f : Fn) : plainC (encFn f) = true := rfl
@[simp] theorem encFn_tree (f : Fn) : treeC (encFn f) = true := rfl
@[simp] theorem encFn_length (f : Fn) : (encFn f).length = 5 := rfl

/-- Not too long anywhere. -/
structure Ins.Ok (x : Ins) : Prop where
  args : Fit x.args
  to : Fit x.to
structure Fn.Ok (f : Fn) : Prop where
  params : Fit f.params
  blocks : Fit f.blocks
  code : ∀ l, l ∈ f.blocks → Fit l
  each : ∀ l, l ∈ f.blocks → ∀ x, x ∈ l → x.Ok

/-- The blocks to which one goes, none twice. -/
def addU (out : List Int) (b : Int) : List Int := if out.contains b then out else out ++ [b]
def toB (l : List Ins) : List Int := match l[l.length - 1]? with
  | some x => x.to
  | none => []
def nextB (l : List Ins) : List Int := (toB l).foldl addU []
/-- Each block has an end. -/
def Ended (f : Fn) : Prop := ∀ l, l ∈ f.blocks → l ≠ []
theorem addU_len (out : List Int) (b : Int) : (addU out b).length ≤ out.length + 1 := by
  unfold addU; split <;> simp
theorem foldU_len : ∀ (xs out : List Int), (xs.foldl addU out).length ≤ out.length + xs.length
  | [], out => by simp
  | x :: xs, out => by
    have h1 := foldU_len xs (addU out x)
    have h2 := addU_len out x
    simp only [List.foldl_cons, List.length_cons]
    omega
end Go.Proofs.YtdkknhpdjcdmfaaGreat.Abs

/- To which blocks each block goes. -/
set_option linter.unusedSimpArgs false
set_option linter.unusedVariables false
namespace Go.Proofs.YtdkknhpdjcdmfaaGreat.Abs
open Go Go.RowKit Go.Proofs

def suS (h : Heap) (f : Fn) (i : Nat) (v28 v27 v26 v4 : V) (rows : List (List Int)) : St :=
  ⟨[(15, I (i : Nat)), (14, I (f.blocks.length : Nat)), (13, Sl (blksOf f.blocks)), (28, v28), (27, v27), (26, v26), (4, v4), (3, .one (.sl h.length 1 f.blocks.length 0 f.blocks.length))], h ++ (some (.row 1 (outR h.length 1 rows)) :: fam rows), []⟩

theorem set_at_self {α : Type} {l : List α} {i : Nat} (hi : i < l.length) (x : α) : (l.set i x)[i]? = some x := by simp [hi]

theorem su_in (h : Heap) (f : Fn) (hf : f.Ok) (k : Nat) (hk : k < f.blocks.length) (rows : List (List Int)) (hr : rows.length = f.blocks.length) (xs : List Int) (hx : Fit xs) :
    lpK 63 Tryz.f63 52 1 h (suS h f k (I (0 : Nat)) (I (xs.length : Nat)) (Sl (intsOf xs)) (I (k : Nat)) (rows.set k [])) = some (.exit 2, suS h f k (I (xs.length : Nat)) (I (xs.length : Nat)) (Sl (intsOf xs)) (I (k : Nat)) (rows.set k (xs.foldl addU []))) := by
  have hb := hf.blocks
  have hkr : k < rows.length := by omega
  have hkI : ((k : Nat) : Int) < ((f.blocks.length : Nat) : Int) := by omega
  refine loop_list (P := Tryz.prog) (C := cfg) (sc := runScope Tryz.prog cfg 52 h.length (cfg.live 63) 0) (N := 52) (n0 := h.length) (K := cfg.live 63) (c := loopAt Tryz.f63 1) xs addU
    (fun i acc => suS h f k (I (i : Nat)) (I (xs.length : Nat)) (Sl (intsOf xs)) (I (k : Nat)) (rows.set k acc)) (fun acc => (.exit 2, suS h f k (I (xs.length : Nat)) (I (xs.length : Nat)) (Sl (intsOf xs)) (I (k : Nat)) (rows.set k acc))) (fun i acc => acc.length ≤ i) ?_ ?_ [] (by simp)
  · intro i acc x hd hl
    have hi := (List.getElem?_eq_some_iff.1 hd).1
    have hiI : ((i : Nat) : Int) < ((xs.length : Nat) : Int) := by omega
    have hfa : Fit acc := by show acc.length ≤ _; have : xs.length ≤ _ := hx; omega
    refine ⟨?_, by have := addU_len acc x; omega⟩
    have hget := set_at_self hkr acc
    have hln : (rows.set k acc).length = f.blocks.length := by simp [hr]
    by_cases hc : acc.contains x = true
    · have ha : addU acc x = acc := by rw [addU, if_pos hc]
      rw [ha]
      simp (disch := (first | omega | simp (disch := omega) [famK_one, famK_two, hr])) [round_eq, suS, Tryz.f63, lv63, hd, hi, hiI, hk, hkI, wrap_i64, row_fam0 _ hget, contains _ acc hfa, hc, hr, -getElem?_pos, -tidy_eq, -List.contains_eq_mem]
      refine (tidy_fam' hln ?_ ?_).trans ?_ <;> simp (disch := omega) [famK_one, famK_two, famT_one, famT_two]
    · have hc' : acc.contains x = false := by simpa using hc
      have ha : addU acc x = acc ++ [x] := by rw [addU, if_neg hc]
      have hln2 : (rows.set k (acc ++ [x])).length = f.blocks.length := by simp [hr]
      have hset : (outR h.length 1 (rows.set k acc)).set k [.sl (h.length + (k + 1)) 1 (acc.length + 1) 0 (acc.length + 1)] = outR h.length 1 (rows.set k (acc ++ [x])) := by
        have := outR_set h.length 1 (rows.set k acc) k (acc ++ [x])
        simpa using this
      rw [ha]
      simp (disch := (first | omega | simp (disch := omega) [famK_one, famK_two, hr])) [round_eq, suS, Tryz.f63, lv63, hd, hi, hiI, hk, hkI, hkr, wrap_i64, room_of, row_fam0 _ hget, row_fam _ _ hget, row_gar hln, set_fam, intsOf_snoc, hset, contains _ acc hfa, hc', hr, -getElem?_pos, -tidy_eq, -List.contains_eq_mem]
      refine (tidy_fam hln2 ?_ ?_).trans ?_ <;> simp (disch := omega) [famK_one, famK_two, famT_one, famT_two]
  · intro acc hl
    have hln : (rows.set k acc).length = f.blocks.length := by simp [hr]
    refine ⟨?_, nofun⟩
    simp (disch := (first | omega | simp (disch := omega) [famK_one, famK_two, hr])) [round_eq, suS, Tryz.f63, lv63, hr, -getElem?_pos, -tidy_eq]
    refine (tidy_fam' hln ?_ ?_).trans ?_ <;> simp (disch := omega) [famK_one, famK_two, famT_one, famT_two]

/-- The rows, where so many are done. -/
def rowsN (n : Nat) (done : List (List Int)) : List (List Int) := done ++ List.replicate (n - done.length) []
theorem rowsN_len {n : Nat} {done : List (List Int)} (h : done.length ≤ n) : (rowsN n done).length = n := by simp [rowsN]; omega
theorem rowsN_set {n : Nat} {done : List (List Int)} (h : done.length < n) (l : List Int) : (rowsN n done).set done.length l = rowsN n (done ++ [l]) := by
  unfold rowsN
  rw [List.set_append_right _ _ (Nat.le_refl _), Nat.sub_self]
  obtain ⟨m, hm⟩ : ∃ m, n - done.length = m + 1 := ⟨n - done.length - 1, by omega⟩
  rw [hm, List.replicate_succ, List.set_cons_zero]
  simp [show n - (done.length + 1) = m by omega]
theorem rowsN_nil {n : Nat} {done : List (List Int)} (h : done.length < n) : (rowsN n done).set done.length [] = rowsN n done := by
  unfold rowsN
  rw [List.set_append_right _ _ (Nat.le_refl _), Nat.sub_self]
  obtain ⟨m, hm⟩ : ∃ m, n - done.length = m + 1 := ⟨n - done.length - 1, by omega⟩
  rw [hm, List.replicate_succ, List.set_cons_zero]
theorem rowsN_all {n : Nat} {done : List (List Int)} (h : done.length = n) : rowsN n done = done := by simp [rowsN, h]

def suO (h : Heap) (f : Fn) (i : Nat) (s : List (List Int) × Option (List Int × Nat)) : St := match s.2 with
  | none => suS h f i .junk .junk .junk .junk (rowsN f.blocks.length s.1)
  | some (xs, k) => suS h f i (I (xs.length : Nat)) (I (xs.length : Nat)) (Sl (intsOf xs)) (I (k : Nat)) (rowsN f.blocks.length s.1)

theorem toB_ok {f : Fn} (hf : f.Ok) {l : List Ins} (hl : l ∈ f.blocks) : Fit (toB l) := by
  unfold toB
  split
  · rename_i x hx
    exact (hf.each l hl x (List.mem_of_getElem? hx)).to
  · simp [Fit]

theorem su_round (h : Heap) (f : Fn) (hf : f.Ok) (he : Ended f) (i : Nat) (l : List Ins) (hl : f.blocks[i]? = some l) (s : List (List Int) × Option (List Int × Nat)) (hs : s.1.length = i) :
    round Tryz.prog cfg (runScope Tryz.prog cfg 52 h.length (cfg.live 63) 0) 52 h.length (cfg.live 63) (loopAt Tryz.f63 0) (suO h f i s) = some (.normal, suO h f (i + 1) (s.1 ++ [nextB l], some (toB l, i))) := by
  obtain ⟨done, o⟩ := s
  simp only at hs
  subst hs
  have hb := hf.blocks
  have hm := List.mem_of_getElem? hl
  have hi := (List.getElem?_eq_some_iff.1 hl).1
  have hiI : ((done.length : Nat) : Int) < ((f.blocks.length : Nat) : Int) := by omega
  have hln := rowsN_len (Nat.le_of_lt hi)
  have hln2 : (rowsN f.blocks.length (done ++ [nextB l])).length = f.blocks.length := rowsN_len (by simp; omega)
  have hne := he l hm
  have hlp : 0 < l.length := List.length_pos_iff.2 hne
  have hlf := hf.code l hm
  obtain ⟨x, hx⟩ : ∃ x, l[l.length - 1]? = some x := ⟨_, List.getElem?_eq_getElem (by omega)⟩
  have hto : toB l = x.to := by unfold toB; rw [hx]
  have hc : ((l.length : Int) - 1) = ((l.length - 1 : Nat) : Int) := by omega
  have hlt1 : l.length - 1 < l.length := by omega
  have e := su_in h f hf done.length hi (rowsN f.blocks.length done) hln (toB l) (toB_ok hf hm)
  rw [rowsN_nil hi, rowsN_set hi, show (toB l).foldl addU [] = nextB l from rfl, hto] at e
  simp [suS, lpK, lv63, Tryz.f63] at e
  rw [hto]
  cases o with
  | none =>
    simp (disch := (first | omega | simp (disch := omega) [hln])) [round_eq, suO, suS, Tryz.f63, lv63, hl, hi, hiI, hx, hc, hlt1, encIns, wrap_i64, -getElem?_pos, -tidy_eq]
    rw [tidy_fam' hln ?_ ?_]
    · simp (disch := (first | omega | simp (disch := omega) [hln])) [famT_one, famT_two, e, wrap_i64, -getElem?_pos, -tidy_eq]
      refine (tidy_fam' hln2 ?_ ?_).trans ?_ <;> simp (disch := omega) [famK_one, famK_two, famT_one, famT_two]
    all_goals simp (disch := omega) [famK_one, famK_two]
  | some p =>
    simp (disch := (first | omega | simp (disch := omega) [hln])) [round_eq, suO, suS, Tryz.f63, lv63, hl, hi, hiI, hx, hc, hlt1, encIns, wrap_i64, -getElem?_pos, -tidy_eq]
    rw [tidy_fam' hln ?_ ?_]
    · simp (disch := (first | omega | simp (disch := omega) [hln])) [famT_one, famT_two, e, wrap_i64, -getElem?_pos, -tidy_eq]
      refine (tidy_fam' hln2 ?_ ?_).trans ?_ <;> simp (disch := omega) [famK_one, famK_two, famT_one, famT_two]
    all_goals simp (disch := omega) [famK_one, famK_two]

/-- The loop over blocks. -/
theorem su_loop (h : Heap) (f : Fn) (hf : f.Ok) (he : Ended f) :
    ∃ o, lpK 63 Tryz.f63 52 0 h (suO h f 0 ([], none)) = some (.exit 0, suO h f f.blocks.length (f.blocks.map nextB, o)) := by
  have key := loop_list (P := Tryz.prog) (C := cfg) (sc := runScope Tryz.prog cfg 52 h.length (cfg.live 63) 0) (N := 52) (n0 := h.length) (K := cfg.live 63) (c := loopAt Tryz.f63 0) f.blocks (fun (s : List (List Int) × Option (List Int × Nat)) l => (s.1 ++ [nextB l], some (toB l, s.1.length)))
    (fun i s => suO h f i s) (fun s => (.exit 0, suO h f f.blocks.length s)) (fun i s => s.1.length = i) ?_ ?_ ([], none) rfl
  · have hfold : ∀ (ls : List (List Ins)) (s : List (List Int) × Option (List Int × Nat)), ∃ o, ls.foldl (fun s l => (s.1 ++ [nextB l], some (toB l, s.1.length))) s = (s.1 ++ ls.map nextB, o) := by
      intro ls
      induction ls with
      | nil => intro s; exact ⟨s.2, by simp⟩
      | cons l ls ih =>
        intro s
        obtain ⟨o, ho⟩ := ih (s.1 ++ [nextB l], some (toB l, s.1.length))
        exact ⟨o, by rw [List.foldl_cons, ho]; simp⟩
    obtain ⟨o, ho⟩ := hfold f.blocks ([], none)
    rw [ho] at key
    simp only [List.nil_append] at key
    exact ⟨o, key⟩
  · intro i s l hl hs
    refine ⟨?_, by simp [hs]⟩
    rw [su_round h f hf he i l hl s hs, hs]
  · intro s hs
    refine ⟨?_, nofun⟩
    obtain ⟨done, o⟩ := s
    simp only at hs
    have hln := rowsN_len (Nat.le_of_eq hs)
    have hb := hf.blocks
    cases o <;> simp (disch := (first | omega | simp (disch := omega) [hln])) [round_eq, suO, suS, Tryz.f63, lv63, -getElem?_pos, -tidy_eq] <;>
    (refine (tidy_fam' hln ?_ ?_).trans ?_ <;> simp (disch := omega) [famK_one, famK_two, famT_one, famT_two])

/-- To which blocks each block goes. -/
theorem succs (h : Heap) (f : Fn) (hf : f.Ok) (he : Ended f) (hn : f.blocks.length ≤ 100000) : CX 63 [.agg (encFn f)] h = some (Sl (listsOf (f.blocks.map nextB)), h, []) := by
  refine CI_of Tryz.func63 rfl 0 ?_
  have hk : cfg.keep 63 = 0 := rfl
  have hb := hf.blocks
  obtain ⟨o, e⟩ := su_loop h f hf he
  have hln : (f.blocks.map nextB).length = f.blocks.length := by simp
  have hz : rowsN f.blocks.length [] = List.replicate f.blocks.length [] := by simp [rowsN]
  simp (disch := (first | omega | simp (disch := omega) [])) [Tryz.f63, lv63, hk, encFn, room_of, -tidy_eq]
  rw [tidy_fam0 (j := 1) (n := f.blocks.length) ?_ ?_ ?_]
  · cases o <;> simp [suO, suS, lpK, lv63, Tryz.f63, rowsN_all hln, hz] at e <;>
    simp (disch := (first | omega | simp (disch := omega) [])) [famT_one, famT_two, e, hk, frz_outR', -tidy_eq]
  all_goals simp (disch := omega) [famK_one, famK_two]
end Go.Proofs.YtdkknhpdjcdmfaaGreat.Abs

/- From which blocks each block is gone to. -/
set_option linter.unusedSimpArgs false
set_option linter.unusedVariables false
namespace Go.Proofs.YtdkknhpdjcdmfaaGreat.Abs
open Go Go.RowKit Go.Proofs

def pdS (h : Heap) (ss : List (List Int)) (i : Nat) (v22 v21 v20 v4 : V) (rows : List (List Int)) : St :=
  ⟨[(15, I (i : Nat)), (14, I (ss.length : Nat)), (13, Sl (listsOf ss)), (22, v22), (21, v21), (20, v20), (4, v4), (3, .one (.sl h.length 1 ss.length 0 ss.length))], h ++ (some (.row 1 (outR h.length 1 rows)) :: fam rows), []⟩

/-- One more that goes to a block. -/
def addP (k : Nat) (rows : List (List Int)) (b : Int) : List (List Int) := rows.set b.toNat (rows.getD b.toNat [] ++ [(k : Int)])
theorem addP_len (k : Nat) (rows : List (List Int)) (b : Int) : (addP k rows b).length = rows.length := by simp [addP]
theorem foldP_len (k : Nat) : ∀ (xs : List Int) (rows : List (List Int)), (xs.foldl (addP k) rows).length = rows.length
  | [], rows => rfl
  | x :: xs, rows => by rw [List.foldl_cons, foldP_len k xs, addP_len]
/-- All rows are not too long. -/
def Low (m : Nat) (rows : List (List Int)) : Prop := ∀ l, l ∈ rows → l.length ≤ m
theorem addP_low {k m : Nat} {rows : List (List Int)} {b : Int} (h : Low m rows) : Low (m + 1) (addP k rows b) := by
  intro l hl
  unfold addP at hl
  rcases List.mem_or_eq_of_mem_set hl with hl | rfl
  · have := h l hl; omega
  · rw [List.length_append]
    have : (rows.getD b.toNat []).length ≤ m := by
      rw [List.getD]
      cases he : rows[b.toNat]? with
      | none => simp
      | some x => exact h x (List.mem_of_getElem? he)
    simp
    exact this

theorem pd_in (h : Heap) (ss : List (List Int)) (hs : ss.length ≤ 100000) (k m : Nat) (hm : m ≤ 100000000) (hk : k < ss.length) (xs : List Int) (hx : xs.length ≤ 100000) (hr : ∀ b, b ∈ xs → 0 ≤ b ∧ b < ss.length) (rows : List (List Int)) (hrl : rows.length = ss.length) (hlow : Low m rows) :
    lpK 86 Tryz.f86 39 1 h (pdS h ss k (I (0 : Nat)) (I (xs.length : Nat)) (Sl (intsOf xs)) (I (k : Nat)) rows) = some (.exit 2, pdS h ss k (I (xs.length : Nat)) (I (xs.length : Nat)) (Sl (intsOf xs)) (I (k : Nat)) (xs.foldl (addP k) rows)) := by
  refine loop_list (P := Tryz.prog) (C := cfg) (sc := runScope Tryz.prog cfg 39 h.length (cfg.live 86) 0) (N := 39) (n0 := h.length) (K := cfg.live 86) (c := loopAt Tryz.f86 1) xs (addP k)
    (fun i rows => pdS h ss k (I (i : Nat)) (I (xs.length : Nat)) (Sl (intsOf xs)) (I (k : Nat)) rows) (fun rows => (.exit 2, pdS h ss k (I (xs.length : Nat)) (I (xs.length : Nat)) (Sl (intsOf xs)) (I (k : Nat)) rows)) (fun i rows => rows.length = ss.length ∧ Low (m + i) rows) ?_ ?_ rows ⟨hrl, hlow⟩
  · rintro i rows x hd ⟨hrl, hlow⟩
    have hi := (List.getElem?_eq_some_iff.1 hd).1
    have hiI : ((i : Nat) : Int) < ((xs.length : Nat) : Int) := by omega
    have hb := hr x (List.mem_of_getElem? hd)
    refine ⟨?_, by rw [addP_len, hrl], addP_low hlow⟩
    have hbn : x.toNat < rows.length := by omega
    have hbn2 : x.toNat < ss.length := by omega
    have hx0 := hb.1
    obtain ⟨acc, hget⟩ : ∃ acc, rows[x.toNat]? = some acc := ⟨_, List.getElem?_eq_getElem hbn⟩
    have ha : addP k rows x = rows.set x.toNat (acc ++ [(k : Int)]) := by unfold addP; rw [List.getD, hget]; rfl
    have hal := hlow acc (List.mem_of_getElem? hget)
    have hln2 : (rows.set x.toNat (acc ++ [(k : Int)])).length = ss.length := by simp [hrl]
    have hset : (outR h.length 1 rows).set x.toNat [.sl (h.length + (x.toNat + 1)) 1 (acc.length + 1) 0 (acc.length + 1)] = outR h.length 1 (rows.set x.toNat (acc ++ [(k : Int)])) := by
      have := outR_set h.length 1 rows x.toNat (acc ++ [(k : Int)])
      simpa using this
    rw [ha]
    simp (disch := (first | omega | simp (disch := omega) [hrl])) [round_eq, pdS, Tryz.f86, lv86, hd, hi, hiI, hx0, hbn, hbn2, wrap_i64, room_of, hget, row_fam0 _ hget, row_fam _ _ hget, row_gar hrl, set_fam, intsOf_snoc, hset, hrl, -getElem?_pos, -tidy_eq]
    refine (tidy_fam hln2 ?_ ?_).trans ?_ <;> simp (disch := omega) [famK_one, famK_two, famT_one, famT_two]
  · rintro rows ⟨hrl, hlow⟩
    refine ⟨?_, nofun⟩
    simp (disch := (first | omega | simp (disch := omega) [hrl])) [round_eq, pdS, Tryz.f86, lv86, hrl, -getElem?_pos, -tidy_eq]
    refine (tidy_fam' hrl ?_ ?_).trans ?_ <;> simp (disch := omega) [famK_one, famK_two, famT_one, famT_two]

theorem foldP_low {k : Nat} : ∀ (xs : List Int) {m : Nat} {rows : List (List Int)}, Low m rows → Low (m + xs.length) (xs.foldl (addP k) rows)
  | [], m, rows, h => h
  | x :: xs, m, rows, h => by
    have := foldP_low (k := k) xs (addP_low (k := k) (b := x) h)
    rw [List.foldl_cons, List.length_cons, show m + (xs.length + 1) = m + 1 + xs.length by omega]
    exact this
theorem Low.mono {m m' : Nat} {rows : List (List Int)} (h : Low m rows) (hm : m ≤ m') : Low m' rows := fun l hl => Nat.le_trans (h l hl) hm

def pdO (h : Heap) (ss : List (List Int)) (i : Nat) (s : List (List Int) × Nat × Option (List Int)) : St := match s.2.2 with
  | none => pdS h ss i .junk .junk .junk .junk s.1
  | some xs => pdS h ss i (I (xs.length : Nat)) (I (xs.length : Nat)) (Sl (intsOf xs)) (I ((s.2.1 - 1 : Nat) : Nat)) s.1

/-- Blocks, none of which goes elsewhere. -/
structure Edges (ss : List (List Int)) : Prop where
  len : ss.length ≤ 1000
  each : ∀ l, l ∈ ss → l.length ≤ 1000 ∧ ∀ b, b ∈ l → 0 ≤ b ∧ b < ss.length

theorem pd_round (h : Heap) (ss : List (List Int)) (hs : Edges ss) (i : Nat) (l : List Int) (hl : ss[i]? = some l) (s : List (List Int) × Nat × Option (List Int)) (h1 : s.1.length = ss.length) (h2 : s.2.1 = i) (h3 : Low (1000 * i) s.1) :
    round Tryz.prog cfg (runScope Tryz.prog cfg 39 h.length (cfg.live 86) 0) 39 h.length (cfg.live 86) (loopAt Tryz.f86 0) (pdO h ss i s) = some (.normal, pdO h ss (i + 1) (l.foldl (addP i) s.1, i + 1, some l)) := by
  obtain ⟨rows, k, o⟩ := s
  simp only at h1 h2 h3
  subst h2
  have hm := List.mem_of_getElem? hl
  have hi := (List.getElem?_eq_some_iff.1 hl).1
  have hiI : ((k : Nat) : Int) < ((ss.length : Nat) : Int) := by omega
  have he := hs.each l hm
  have hsl := hs.len
  have hln2 : (l.foldl (addP k) rows).length = ss.length := by rw [foldP_len, h1]
  have e := pd_in h ss (by omega) k (1000 * k) (by omega) hi l (by omega) he.2 rows h1 h3
  simp [pdS, lpK, lv86, Tryz.f86] at e
  cases o with
  | none =>
    simp (disch := (first | omega | simp (disch := omega) [h1])) [round_eq, pdO, pdS, Tryz.f86, lv86, hl, hi, hiI, wrap_i64, -getElem?_pos, -tidy_eq]
    rw [tidy_fam' h1 ?_ ?_]
    · simp (disch := (first | omega | simp (disch := omega) [h1])) [famT_one, famT_two, e, wrap_i64, -getElem?_pos, -tidy_eq]
      refine (tidy_fam' hln2 ?_ ?_).trans ?_ <;> simp (disch := omega) [famK_one, famK_two, famT_one, famT_two]
    all_goals simp (disch := omega) [famK_one, famK_two]
  | some p =>
    simp (disch := (first | omega | simp (disch := omega) [h1])) [round_eq, pdO, pdS, Tryz.f86, lv86, hl, hi, hiI, wrap_i64, -getElem?_pos, -tidy_eq]
    rw [tidy_fam' h1 ?_ ?_]
    · simp (disch := (first | omega | simp (disch := omega) [h1])) [famT_one, famT_two, e, wrap_i64, -getElem?_pos, -tidy_eq]
      refine (tidy_fam' hln2 ?_ ?_).trans ?_ <;> simp (disch := omega) [famK_one, famK_two, famT_one, famT_two]
    all_goals simp (disch := omega) [famK_one, famK_two]

/-- From which blocks each is gone to. -/
def predsG : Nat → List (List Int) → List (List Int) → List (List Int)
  | _, [], rows => rows
  | k, l :: ls, rows => predsG (k + 1) ls (l.foldl (addP k) rows)
def predsF (ss : List (List Int)) : List (List Int) := predsG 0 ss (List.replicate ss.length [])
theorem predsG_len : ∀ (k : Nat) (ls rows : List (List Int)), (predsG k ls rows).length = rows.length
  | _, [], _ => rfl
  | k, l :: ls, rows => by rw [predsG, predsG_len, foldP_len]
@[simp] theorem predsF_len (ss : List (List Int)) : (predsF ss).length = ss.length := by simp [predsF, predsG_len]

theorem pd_loop (h : Heap) (ss : List (List Int)) (hs : Edges ss) :
    ∃ k o, lpK 86 Tryz.f86 39 0 h (pdO h ss 0 (List.replicate ss.length [], 0, none)) = some (.exit 0, pdO h ss ss.length (predsF ss, k, o)) := by
  have key := loop_list (P := Tryz.prog) (C := cfg) (sc := runScope Tryz.prog cfg 39 h.length (cfg.live 86) 0) (N := 39) (n0 := h.length) (K := cfg.live 86) (c := loopAt Tryz.f86 0) ss (fun (s : List (List Int) × Nat × Option (List Int)) l => (l.foldl (addP s.2.1) s.1, s.2.1 + 1, some l))
    (fun i s => pdO h ss i s) (fun s => (.exit 0, pdO h ss ss.length s)) (fun i s => s.1.length = ss.length ∧ s.2.1 = i ∧ Low (1000 * i) s.1) ?_ ?_ (List.replicate ss.length [], 0, none) ⟨by simp, rfl, fun l hl => by rw [List.eq_of_mem_replicate hl]; simp⟩
  · have hfold : ∀ (ls : List (List Int)) (s : List (List Int) × Nat × Option (List Int)), ∃ k o, ls.foldl (fun (s : List (List Int) × Nat × Option (List Int)) l => (l.foldl (addP s.2.1) s.1, s.2.1 + 1, some l)) s = (predsG s.2.1 ls s.1, k, o) := by
      intro ls
      induction ls with
      | nil => intro s; exact ⟨s.2.1, s.2.2, rfl⟩
      | cons l ls ih =>
        intro s
        obtain ⟨k, o, ho⟩ := ih (l.foldl (addP s.2.1) s.1, s.2.1 + 1, some l)
        exact ⟨k, o, by rw [List.foldl_cons, ho]; rfl⟩
    obtain ⟨k, o, ho⟩ := hfold ss (List.replicate ss.length [], 0, none)
    rw [ho] at key
    exact ⟨k, o, key⟩
  · rintro i s l hl ⟨h1, h2, h3⟩
    have hm := hs.each l (List.mem_of_getElem? hl)
    refine ⟨?_, by simp only; rw [foldP_len, h1], by simp only; omega, ?_⟩
    · rw [pd_round h ss hs i l hl s h1 h2 h3, h2]
    · simp only
      exact (foldP_low l h3).mono (by omega)
  · rintro s ⟨h1, h2, h3⟩
    refine ⟨?_, nofun⟩
    obtain ⟨rows, k, o⟩ := s
    simp only at h1 h2 h3
    have hsl := hs.len
    cases o <;> simp (disch := (first | omega | simp (disch := omega) [h1])) [round_eq, pdO, pdS, Tryz.f86, lv86, -getElem?_pos, -tidy_eq] <;>
    (refine (tidy_fam' h1 ?_ ?_).trans ?_ <;> simp (disch := omega) [famK_one, famK_two, famT_one, famT_two])

/-- A function that is well shaped, not too large. -/
structure Fn.Fine (f : Fn) : Prop where
  ok : f.Ok
  ended : Ended f
  len : f.blocks.length ≤ 1000
  edges : Edges (f.blocks.map nextB)

theorem preds (h : Heap) (f : Fn) (hf : f.Fine) : CX 86 [.agg (encFn f)] h = some (Sl (listsOf (predsF (f.blocks.map nextB))), h, []) := by
  refine CI_of Tryz.func86 rfl 0 ?_
  have hk : cfg.keep 86 = 0 := rfl
  have hb := hf.len
  have e1 := fun h => succs h f hf.ok hf.ended (by omega)
  simp [encFn] at e1
  obtain ⟨k, o, e⟩ := pd_loop h (f.blocks.map nextB) hf.edges
  have hln : (predsF (f.blocks.map nextB)).length = f.blocks.length := by simp
  have hz : (f.blocks.map nextB).length = f.blocks.length := by simp
  simp (disch := (first | omega | simp (disch := omega) [])) [Tryz.f86, lv86, hk, encFn, e1, room_of, -tidy_eq]
  rw [tidy_fam0 (j := 1) (n := f.blocks.length) ?_ ?_ ?_]
  · cases o <;> simp [pdO, pdS, lpK, lv86, Tryz.f86, hz] at e <;>
    simp (disch := (first | omega | simp (disch := omega) [])) [famT_one, famT_two, e, hk, hln, frz_outR', -tidy_eq]
  all_goals simp (disch := omega) [famK_one, famK_two]
end Go.Proofs.YtdkknhpdjcdmfaaGreat.Abs

/- Calls of values; conversions between numbers. -/
set_option linter.unusedSimpArgs false
set_option linter.unusedVariables false
namespace Go.Proofs.YtdkknhpdjcdmfaaGreat.Abs
open Go Go.RowKit Go.Proofs

def callK (P : Program) (cf : CF) (h : Heap) (vs : List V) : V → Res
  | .one (.fn g caps) => if callee P g then cf g (vs ++ caps.map V.one) h else none
  | _ => none
theorem op_callv {P : Program} {cf : CF} {slot : Option Nat} {T : Tmps} {h : Heap} {dst : Option Nat} {ty : TypeId} {pos : String} {after : Array Edge} {guard : Option (Nat × Bool)} (i : Nat) (args : Array Operand) (tys : Array TypeId) :
    absOp P cf slot T h ⟨dst, .call { callee := .value (.tmp i), args := args, argTypes := tys }, ty, pos, after, guard⟩ = callK P cf h (args.toList.map (ev T)) (tget T i) := by
  simp only [absOp, ev, callK]
  split <;> simp_all
theorem callK_fn (P : Program) (cf : CF) (h : Heap) (vs : List V) (g : FuncId) (caps : List Leaf) : callK P cf h vs (.one (.fn g caps)) = if callee P g then cf g (vs ++ caps.map V.one) h else none := rfl
theorem fzT_fn0 {h : Heap} {n0 : Nat} {L : List (Option Nat)} (f : FuncId) : fzT h n0 L (.fn f []) = some (.fn f []) := rfl
theorem ev_func {t : Tmps} (f : FuncId) : ev t (.func f) = .one (.fn f []) := rfl
attribute [simp] op_callv callK_fn fzT_fn0 ev_func

theorem wrap_u64 {n : Int} (h1 : 0 ≤ n) (h2 : n ≤ 9223372036854775807) : IntKind.u64.wrap n = n := by
  simp [IntKind.wrap, IntKind.min, IntKind.max, IntKind.signed, IntKind.bits]
  omega
theorem conv_int {P : Program} {h : Heap} (s d : TypeId) (k : IntKind) (n : Int) : convertV P h s d (.one (.int k n)) = match P.underlying s, P.underlying d with
    | some _, some (.int k') => some (.one (.int k' (k'.wrap n)))
    | _, _ => none := by
  unfold convertV
  cases P.underlying s with
  | none => rfl
  | some a =>
    cases P.underlying d with
    | none => cases a <;> rfl
    | some b =>
      cases b <;> cases a <;> try rfl
      rename_i e
      simp only [view, Option.bind_none]
      split <;> first | rfl | (split <;> rfl)
attribute [simp] conv_int
end Go.Proofs.YtdkknhpdjcdmfaaGreat.Abs
