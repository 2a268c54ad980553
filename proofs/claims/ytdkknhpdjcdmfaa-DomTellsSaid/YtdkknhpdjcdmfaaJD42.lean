/- YtdkknhpdjcdmfaaJD42: texts that follow each other, as one. -/
import Derived.Test.YtdkknhpdjcdmfaaJD40
import Derived.Test.YtdkknhpdjcdmfaaJD41
import Derived.Test.YtdkknhpdjcdmfaaJD31
import Derived.Test.YtdkknhpdjcdmfaaJD33
/- Lists of lists that a call makes and grows: a row of slices, and a row for each. -/
set_option linter.unusedSimpArgs false
set_option linter.unusedVariables false
namespace Go.Proofs.Ytdkknhpdjcdmfaa.Abs
open Go Go.RowKit Go.Proofs

def fam (rows : List (List Int)) : Heap := rows.map fun l => some (.row 1 (intsOf l))
def outR (b : Nat) : Nat → List (List Int) → List (List Leaf)
  | _, [] => []
  | k, l :: ls => [.sl (b + k) 1 l.length 0 l.length] :: outR b (k + 1) ls
def idsR (b : Nat) : Nat → Nat → List (Option Nat)
  | _, 0 => []
  | k, n + 1 => some (b + k) :: idsR b (k + 1) n
def listsOf (ls : List (List Int)) : List (List Leaf) := ls.map fun l => [.isl (intsOf l)]
@[simp] theorem listsOf_length (ls : List (List Int)) : (listsOf ls).length = ls.length := by simp [listsOf]
@[simp] theorem listsOf_get (ls : List (List Int)) (i : Nat) : (listsOf ls)[i]? = (ls[i]?).map fun l => [.isl (intsOf l)] := by simp [listsOf]
@[simp] theorem listsOf_plain (ls : List (List Int)) : plainR (listsOf ls) = true := plainR_map (fun _ => rfl) ls
@[simp] theorem listsOf_tree (ls : List (List Int)) : treeR (listsOf ls) = true := treeR_map (fun _ => rfl) ls
@[simp] theorem sized_lists (ls : List (List Int)) : sized 1 (listsOf ls) = true := sized_map (n := 1) (f := fun l : List Int => [Leaf.isl (intsOf l)]) (fun _ => rfl) ls
@[simp] theorem listsOf_nil : listsOf [] = [] := rfl
theorem listsOf_snoc (ls : List (List Int)) (l : List Int) : listsOf ls ++ [[.isl (intsOf l)]] = listsOf (ls ++ [l]) := by simp [listsOf]

@[simp] theorem fam_length (rows : List (List Int)) : (fam rows).length = rows.length := by simp [fam]
@[simp] theorem outR_length (b : Nat) : ∀ (k : Nat) (ls : List (List Int)), (outR b k ls).length = ls.length
  | _, [] => rfl
  | k, l :: ls => by simp [outR, outR_length b (k + 1) ls]
@[simp] theorem idsR_length (b : Nat) : ∀ (k n : Nat), (idsR b k n).length = n
  | _, 0 => rfl
  | k, n + 1 => by simp [idsR, idsR_length b (k + 1) n]
@[simp] theorem outR_get (b : Nat) : ∀ (k : Nat) (ls : List (List Int)) (i : Nat), (outR b k ls)[i]? = (ls[i]?).map fun l => [.sl (b + (i + k)) 1 l.length 0 l.length]
  | _, [], i => by simp [outR]
  | k, l :: ls, 0 => by simp [outR]
  | k, l :: ls, i + 1 => by
    simp only [outR, List.getElem?_cons_succ, outR_get b (k + 1) ls i]
    rw [show i + (k + 1) = i + 1 + k by omega]
theorem outR_set (b : Nat) : ∀ (k : Nat) (ls : List (List Int)) (i : Nat) (l : List Int), (outR b k ls).set i [.sl (b + (i + k)) 1 l.length 0 l.length] = outR b k (ls.set i l)
  | _, [], i, l => by simp [outR]
  | k, x :: ls, 0, l => by simp [outR]
  | k, x :: ls, i + 1, l => by
    simp only [outR, List.set_cons_succ]
    rw [← outR_set b (k + 1) ls i l, show i + (k + 1) = i + 1 + k by omega]
theorem fam_set (rows : List (List Int)) (i : Nat) (l : List Int) : (fam rows).set i (some (.row 1 (intsOf l))) = fam (rows.set i l) := by simp [fam, List.map_set]
theorem fam_get (rows : List (List Int)) (i : Nat) : (fam rows)[i]? = (rows[i]?).map fun l => some (.row 1 (intsOf l)) := by simp [fam]

theorem row_fam (rows : List (List Int)) (g : Heap) {i : Nat} {l : List Int} (hi : rows[i]? = some l) (sz : Nat) : rowAt (fam rows ++ g) i sz = if l.length = sz then some (1, intsOf l) else none := by
  have hlt := (List.getElem?_eq_some_iff.1 hi).1
  have e : (fam rows ++ g)[i]? = some (some (.row 1 (intsOf l))) := by rw [List.getElem?_append_left (by simpa using hlt), fam_get, hi]; rfl
  simp [rowAt, e]
theorem row_fam0 (rows : List (List Int)) {i : Nat} {l : List Int} (hi : rows[i]? = some l) (sz : Nat) : rowAt (fam rows) i sz = if l.length = sz then some (1, intsOf l) else none := by
  have := row_fam rows [] hi sz
  simpa using this
theorem row_gar {rows : List (List Int)} {n : Nat} (hn : rows.length = n) (g : Heap) (sz : Nat) : rowAt (fam rows ++ g) n sz = rowAt g 0 sz := by
  subst hn
  simp [rowAt, List.getElem?_append_right]
theorem set_fam (rows : List (List Int)) (g : Heap) {i : Nat} (hi : i < rows.length) (l : List Int) : (fam rows ++ g).set i (some (.row 1 (intsOf l))) = fam (rows.set i l) ++ g := by
  rw [List.set_append_left _ _ (by simpa using hi), fam_set]

theorem cells_outR {n0 b e : Nat} (hb : n0 ≤ b) : ∀ (k : Nat) (ls : List (List Int)), (outR b k ls).flatMap (cellIds n0 [e + 1]) = idsR b k ls.length
  | _, [] => rfl
  | k, l :: ls => by
    have h1 : n0 ≤ b + k := by omega
    have h2 := cells_outR (e := e) hb (k + 1) ls
    simp only [outR, List.flatMap_cons, h2]
    simp [cellIds, ownId, refId, h1, idsR]
theorem canon_fam (n0 : Nat) (g : Heap) : ∀ (p : Nat) (rows : List (List Int)), Canon n0 p (fam rows ++ g) (idsR n0 p rows.length)
  | _, [] => by simp [idsR, Canon]
  | p, l :: ls => by
    have := canon_fam n0 g (p + 1) ls
    simp only [List.length_cons, idsR]
    exact ⟨rfl, rfl, this⟩
theorem noNil_outR {b e : Nat} : ∀ (k : Nat) (ls : List (List Int)), ∀ cs, cs ∈ outR b k ls → noNil [e + 1] cs = true ∧ cs.length ≤ 1
  | _, [], cs, h => by simp [outR] at h
  | k, l :: ls, cs, h => by
    simp only [outR, List.mem_cons] at h
    rcases h with rfl | h
    · exact ⟨rfl, Nat.le_refl _⟩
    · exact noNil_outR (k + 1) ls cs h
theorem keep_outR {H : Heap} {n0 m b : Nat} : ∀ (k : Nat) (ls : List (List Int)), (∀ i, i < ls.length → b + (k + i) < n0 + m ∧ isObj H[b + (k + i)]? = true) → keepR H n0 m (outR b k ls) = true
  | _, [], _ => rfl
  | k, l :: ls, h => by
    have h0 := h 0 (by simp)
    have h1 := keep_outR (k + 1) ls fun i hi => by
      have := h (i + 1) (by simpa using hi)
      rw [show k + 1 + i = k + (i + 1) by omega]
      exact this
    simp only [keepR, outR, List.all_cons, Bool.and_eq_true] at h1 ⊢
    refine ⟨?_, h1⟩
    rw [Nat.add_zero] at h0
    simp only [keepC, List.all_cons, List.all_nil, keepL, Bool.and_true]
    rw [h0.2, decide_eq_true h0.1]
    simp
theorem keep_fam {H : Heap} {n0 m : Nat} (g : Heap) : ∀ (rows : List (List Int)), KeepT H n0 m rows.length (fam rows ++ g)
  | [] => trivial
  | l :: ls => by
    refine ⟨?_, keep_fam g ls⟩
    show keepR H n0 m (intsOf l) = true
    simp [keepR, intsOf, keepC, keepL]

def plL : Leaf → Bool
  | .ptr .. => false
  | .sl .. => false
  | .map _ => false
  | .fn _ caps => caps.all treeL
  | _ => true
def plV : V → Bool
  | .one l => plL l
  | .agg cs => cs.all plL
  | .junk => true
  | .tup _ => false
@[simp] theorem plL_int (k : IntKind) (n : Int) : plL (.int k n) = true := rfl
@[simp] theorem plL_bool (b : Bool) : plL (.bool b) = true := rfl
@[simp] theorem plL_str (s : List UInt8) : plL (.str s) = true := rfl
@[simp] theorem plL_isl (es : List (List Leaf)) : plL (.isl es) = true := rfl
@[simp] theorem plL_iptr (cs : List Leaf) (off : Nat) : plL (.iptr cs off) = true := rfl
@[simp] theorem plL_nils : plL .nils = true := rfl
@[simp] theorem plV_one (l : Leaf) : plV (.one l) = plL l := rfl
@[simp] theorem plV_junk : plV .junk = true := rfl
theorem plL_keep {H : Heap} {n0 m : Nat} {l : Leaf} (h : plL l = true) : keepL H n0 m l = true := by
  cases l <;> first | rfl | (simp [plL] at h; done) | exact h
theorem plV_keep {H : Heap} {n0 m : Nat} {v : V} (h : plV v = true) : keepV H n0 m v = true := by
  cases v with
  | one l => exact plL_keep h
  | agg cs => exact List.all_eq_true.2 fun l hl => plL_keep (List.all_eq_true.1 h l hl)
  | junk => rfl
  | tup vs => cases h
theorem plL_fz {H : Heap} {n0 : Nat} {L : List (Option Nat)} {l : Leaf} (h : plL l = true) : fzT H n0 L l = some l := by
  cases l with
  | fn f caps =>
    show (mapO (fzR H n0 L) caps).map (Leaf.fn f) = _
    rw [mapO_id fun x hx => ?_]
    · rfl
    · have hx' := List.all_eq_true.1 h x hx
      cases x <;> first | rfl | (simp [treeL, plainL] at hx'; done)
  | ptr => cases h
  | sl => cases h
  | map => cases h
  | _ => rfl
theorem plV_fz {H : Heap} {n0 : Nat} {L : List (Option Nat)} {v : V} (h : plV v = true) : fzV H n0 L v = some v := by
  cases v with
  | one l => show (fzT _ _ _ l).map V.one = _; rw [plL_fz h]; rfl
  | agg cs => show (mapO (fzT _ _ _) cs).map V.agg = _; rw [mapO_id fun x hx => plL_fz (List.all_eq_true.1 h x hx)]; rfl
  | junk => rfl
  | tup vs => cases h

def FamK (T : Tmps) (v : V) : List (Nat × Kd) → Prop
  | [] => False
  | [e] => e.2 = .s 1 [2] ∧ tget T e.1 = v
  | e :: K => (e.2 = .p ∧ plV (tget T e.1) = true) ∧ FamK T v K
def famT (T : Tmps) (v : V) : List (Nat × Kd) → Tmps
  | [] => []
  | [e] => [(e.1, v)]
  | e :: K => (e.1, tget T e.1) :: famT T v K
theorem famK_one (T : Tmps) (v : V) (i : Nat) (k : Kd) : FamK T v [(i, k)] = (k = .s 1 [2] ∧ tget T i = v) := rfl
theorem famK_two (T : Tmps) (v : V) (i : Nat) (k : Kd) (e : Nat × Kd) (K : List (Nat × Kd)) : FamK T v ((i, k) :: e :: K) = ((k = .p ∧ plV (tget T i) = true) ∧ FamK T v (e :: K)) := rfl
theorem famT_one (T : Tmps) (v : V) (i : Nat) (k : Kd) : famT T v [(i, k)] = [(i, v)] := rfl
theorem famT_two (T : Tmps) (v : V) (i : Nat) (k : Kd) (e : Nat × Kd) (K : List (Nat × Kd)) : famT T v ((i, k) :: e :: K) = (i, tget T i) :: famT T v (e :: K) := rfl
theorem famK_kdL {H : Heap} {n0 : Nat} {T : Tmps} {v : V} : ∀ {K : List (Nat × Kd)}, FamK T v K → kdL H n0 T K = rootOf n0 v :: insideIds H n0 [2] (rootOf n0 v)
  | [], h => h.elim
  | [e], h => by obtain ⟨h1, h2⟩ := h; simp [kdL, h1, h2, kdIds]
  | e :: e' :: K, h => by
    have := famK_kdL (H := H) (n0 := n0) h.2
    rw [kdL, h.1.1, this]
    rfl
theorem famK_kdAll {H : Heap} {n0 : Nat} {L : List (Option Nat)} {T : Tmps} {v v' : V} {o : Heap} : ∀ {K : List (Nat × Kd)} (p : Nat), FamK T v K → kdNew H n0 L p v (.s 1 [2]) = some (v', o) → kdAll H n0 L T p K = some (famT T v' K, o)
  | [], p, h, _ => h.elim
  | [e], p, h, e1 => by
    obtain ⟨h1, h2⟩ := h
    unfold kdAll
    rw [h1, h2, e1]
    simp [kdAll, famT]
  | e :: e' :: K, p, h, e1 => by
    have := famK_kdAll (L := L) p h.2 e1
    unfold kdAll
    rw [h.1.1]
    simp only [kdNew, plV_fz h.1.2, List.length_nil, Nat.add_zero]
    rw [this]
    rfl
theorem famT_id {T : Tmps} {v : V} : ∀ {K : List (Nat × Kd)}, FamK T v K → famT T v K = K.map fun e => (e.1, tget T e.1)
  | [], h => h.elim
  | [e], h => by simp [famT, h.2]
  | e :: e' :: K, h => by
    have := famT_id h.2
    show (e.1, tget T e.1) :: famT T v (e' :: K) = _
    rw [this]
    rfl
theorem famK_keep {H : Heap} {n0 m : Nat} {T : Tmps} {v : V} (hv : keepV H n0 m v = true) (ho : KdOK H n0 v (.s 1 [2])) : ∀ {K : List (Nat × Kd)}, FamK T v K → KeepK H n0 m T K
  | [], h => h.elim
  | [e], h => by
    obtain ⟨h1, h2⟩ := h
    refine ⟨⟨by rw [h2]; exact hv, ?_⟩, trivial⟩
    rw [h1, h2]
    exact ho
  | e :: e' :: K, h => by
    refine ⟨⟨plV_keep h.1.2, ?_⟩, famK_keep hv ho h.2⟩
    rw [h.1.1]
    trivial

theorem tidy_fam {h g : Heap} {T : Tmps} {ws : List Nat} {K : List (Nat × Kd)} {rows : List (List Int)} {n : Nat} (hn : rows.length = n) (hK : FamK T (.one (.sl h.length 1 n 0 n)) K) (hw : wsOf h.length ws = []) :
    tidy h.length K ⟨T, h ++ (some (.row 1 (outR h.length 1 rows)) :: (fam rows ++ g)), ws⟩ = ⟨famT T (.one (.sl h.length 1 n 0 n)) K, h ++ (some (.row 1 (outR h.length 1 rows)) :: fam rows), []⟩ := by
  subst hn
  have hat : (h ++ (some (AO.row 1 (outR h.length 1 rows)) :: (fam rows ++ g)))[h.length]? = some (some (.row 1 (outR h.length 1 rows))) := by
    rw [List.getElem?_append_right (Nat.le_refl _), Nat.sub_self]; rfl
  have hin : insideIds (h ++ (some (AO.row 1 (outR h.length 1 rows)) :: (fam rows ++ g))) h.length [2] (some h.length) = idsR h.length 1 rows.length := by
    simp only [insideIds, hat]
    exact cells_outR (Nat.le_refl _) 1 rows
  have hroot : rootOf h.length (.one (.sl h.length 1 rows.length 0 rows.length)) = some h.length := by simp [rootOf, ownId, refId]
  have hL : kdL (h ++ (some (AO.row 1 (outR h.length 1 rows)) :: (fam rows ++ g))) h.length T K = idsR h.length 0 (rows.length + 1) := by
    rw [famK_kdL hK, hroot, hin]
    rfl
  have hc : Canon h.length 0 (some (AO.row 1 (outR h.length 1 rows)) :: (fam rows ++ g)) (idsR h.length 0 (rows.length + 1)) := ⟨rfl, rfl, canon_fam _ _ _ _⟩
  have hobj : ∀ i, i < rows.length + 1 → isObj (h ++ (some (AO.row 1 (outR h.length 1 rows)) :: (fam rows ++ g)))[h.length + i]? = true := by
    intro i hi
    rw [List.getElem?_append_right (by omega), Nat.add_sub_cancel_left]
    cases i with
    | zero => rfl
    | succ i =>
      rw [List.getElem?_cons_succ, List.getElem?_append_left (by simp; omega), fam_get, List.getElem?_eq_getElem (by omega)]
      rfl
  have key := tidy_keep (ws := ws) hL hc (famK_keep (v := .one (.sl h.length 1 rows.length 0 rows.length)) ?_ ⟨by simp, ?_⟩ hK) ?_ hw
  · rw [key, famT_id hK]
    simp
  · have := hobj 0 (by omega)
    rw [Nat.add_zero] at this
    simp only [keepV, keepL, idsR_length, this]
    simp
  · rw [hroot]
    exact ⟨1, _, hat, fun cs hcs => noNil_outR 1 rows cs hcs⟩
  · rw [idsR_length]
    refine ⟨?_, ?_⟩
    · refine keep_outR 1 rows fun i hi => ⟨by omega, hobj (1 + i) (by omega)⟩
    · have := keep_fam (H := h ++ (some (AO.row 1 (outR h.length 1 rows)) :: (fam rows ++ g))) (n0 := h.length) (m := rows.length + 1) g rows
      exact this
theorem tidy_fam' {h : Heap} {T : Tmps} {ws : List Nat} {K : List (Nat × Kd)} {rows : List (List Int)} {n : Nat} (hn : rows.length = n) (hK : FamK T (.one (.sl h.length 1 n 0 n)) K) (hw : wsOf h.length ws = []) :
    tidy h.length K ⟨T, h ++ (some (.row 1 (outR h.length 1 rows)) :: fam rows), ws⟩ = ⟨famT T (.one (.sl h.length 1 n 0 n)) K, h ++ (some (.row 1 (outR h.length 1 rows)) :: fam rows), []⟩ := by
  have := tidy_fam (g := []) hn hK hw
  simpa using this

theorem tidy_fam0 {h t : Heap} {T : Tmps} {ws : List Nat} {K : List (Nat × Kd)} {n j : Nat} (hj : t[j]? = some (some (.row 1 (List.replicate n [.nils])))) (hK : FamK T (.one (.sl (h.length + j) 1 n 0 n)) K) (hw : wsOf h.length ws = []) :
    tidy h.length K ⟨T, h ++ t, ws⟩ = ⟨famT T (.one (.sl h.length 1 n 0 n)) K, h ++ (some (.row 1 (outR h.length 1 (List.replicate n []))) :: fam (List.replicate n [])), []⟩ := by
  have hat : (h ++ t)[h.length + j]? = some (some (.row 1 (List.replicate n [.nils]))) := by
    rw [List.getElem?_append_right (by omega), Nat.add_sub_cancel_left, hj]
  have hroot : rootOf h.length (.one (.sl (h.length + j) 1 n 0 n)) = some (h.length + j) := by simp [rootOf, ownId, refId]
  have hfl : ∀ n, (List.replicate n [Leaf.nils]).flatMap (cellIds h.length [2]) = List.replicate n none := by
    intro n
    induction n with
    | zero => rfl
    | succ n ih => rw [List.replicate_succ, List.flatMap_cons, ih]; simp [cellIds, ownId, refId, List.replicate_succ]
  have hL : kdL (h ++ t) h.length T K = some (h.length + j) :: List.replicate n none := by
    rw [famK_kdL hK, hroot]
    simp only [insideIds, hat, hfl]
  have hrows : ∀ (n p : Nat) (L : List (Option Nat)), newRows (h ++ t) h.length L [2] p (List.replicate n [.nils]) = some (outR h.length p (List.replicate n []), fam (List.replicate n [])) := by
    intro n
    induction n with
    | zero => intro p L; rfl
    | succ n ih =>
      intro p L
      rw [List.replicate_succ]
      simp only [newRows, newCells, List.length_cons, List.length_nil, ih]
      simp [outR, fam, List.replicate_succ, mapO]
  have hnew : kdNew (h ++ t) h.length (some (h.length + j) :: List.replicate n none) 0 (.one (.sl (h.length + j) 1 n 0 n)) (.s 1 [2]) = some (.one (.sl h.length 1 n 0 n), some (.row 1 (outR h.length 1 (List.replicate n []))) :: fam (List.replicate n [])) := by
    simp only [kdNew, hroot, newRoot, hat, Nat.zero_add, hrows]
    have : fzV (h ++ t) h.length (some (h.length + j) :: List.replicate n none) (.one (.sl (h.length + j) 1 n 0 n)) = some (.one (.sl h.length 1 n 0 n)) := by
      show (fzT _ _ _ _).map V.one = _
      rw [fzT_sl, if_pos (by omega)]
      have : placeOf (h.length + j) (some (h.length + j) :: List.replicate n none) h.length = some h.length := by simp [placeOf, placeAt]
      rw [this]
      rfl
    rw [this]
  have hok : okL h.length (some (h.length + j) :: List.replicate n none) = true := by
    have h1 : ∀ n, okL h.length (List.replicate n none) = true := by
      intro n
      induction n with
      | zero => rfl
      | succ n ih => rw [List.replicate_succ]; exact ih
    simp only [okL, h1]
    simp
  unfold tidy tidyO
  simp only [hL, hok, if_true, famK_kdAll 0 hK hnew, hw, fzH, List.take_left']

theorem fz_outR {H : Heap} {n0 b k : Nat} (hb : n0 ≤ b) : ∀ (p : Nat) (ls : List (List Int)), (∀ i l, ls[i]? = some l → rowAt H (b + (p + i)) l.length = some (1, intsOf l)) → mapO (mapO (fzL H n0 [] (k + 1 + 1))) (outR b p ls) = some (listsOf ls)
  | _, [], _ => rfl
  | p, l :: ls, h => by
    have h0 := h 0 l rfl
    rw [Nat.add_zero] at h0
    have h1 := fz_outR (k := k) hb (p + 1) ls fun i x hx => by
      have := h (i + 1) x (by simpa using hx)
      rw [show p + 1 + i = p + (i + 1) by omega]
      exact this
    have hg : goes n0 [] (b + p) = true := by simp [goes, placeOf, placeAt]; omega
    simp only [outR, mapO]
    rw [fzL_whole, if_pos hg, h0, h1]
    simp [wholeK, fzRowsL_true, listsOf]
theorem frz_outR {h g : Heap} {x : Option AO} {k : Nat} (rows : List (List Int)) : fzRowsL (h ++ (x :: (fam rows ++ g))) h.length [] (k + 1) (outR h.length 1 rows) (treeR (outR h.length 1 rows)) = some (listsOf rows) := by
  rw [← rowsL_eq]
  refine fz_outR (Nat.le_refl _) 1 rows fun i l hl => ?_
  rw [row_at, show 1 + i = i + 1 by omega, row_succ, row_fam rows g hl]
  simp
theorem frz_outR' {h : Heap} {x : Option AO} {k : Nat} (rows : List (List Int)) : fzRowsL (h ++ (x :: fam rows)) h.length [] (k + 1) (outR h.length 1 rows) (treeR (outR h.length 1 rows)) = some (listsOf rows) := by
  have := frz_outR (h := h) (g := []) (x := x) (k := k) rows
  simpa using this
end Go.Proofs.Ytdkknhpdjcdmfaa.Abs

/- What makeSlice makes, type by type. Printed by tm.py. -/
namespace Go.Proofs.Ytdkknhpdjcdmfaa.Abs
open Go Go.RowKit Go.Proofs
theorem op_makeSlice {P : Program} {H : Heap} {cf : CF} {dst : Option Nat} {ty : TypeId} {pos : String} {after : Array Edge} {guard : Option (Nat × Bool)} {T : Tmps} (t : TypeId) (l c : Operand) : absOp P cf none T H ⟨dst, .makeSlice t l c, ty, pos, after, guard⟩ = makeSliceV P none H t (ev T l) (ev T c) := rfl
theorem mks22 {H : Heap} (k k' : IntKind) {l c : Nat} (hl : l ≤ c) (hr : c * 80 ≤ 140737488355328) : makeSliceV Try.prog none H 22 (.one (.int k (l : Nat))) (.one (.int k' (c : Nat))) = some (.one (.sl H.length 5 l 0 l), H ++ [some (.row 5 (List.replicate l [.str [], .nils, .int .i64 0, .nils, .int .i64 0]))], []) := make_room E22 k k' hl hr
theorem mks28 {H : Heap} (k k' : IntKind) {l c : Nat} (hl : l ≤ c) (hr : c * 24 ≤ 140737488355328) : makeSliceV Try.prog none H 28 (.one (.int k (l : Nat))) (.one (.int k' (c : Nat))) = some (.one (.sl H.length 1 l 0 l), H ++ [some (.row 1 (List.replicate l [.nils]))], []) := make_room E28 k k' hl hr
theorem mks30 {H : Heap} (k k' : IntKind) {l c : Nat} (hl : l ≤ c) (hr : c * 8 ≤ 140737488355328) : makeSliceV Try.prog none H 30 (.one (.int k (l : Nat))) (.one (.int k' (c : Nat))) = some (.one (.sl H.length 1 l 0 l), H ++ [some (.row 1 (List.replicate l [.int .i64 0]))], []) := make_room E30 k k' hl hr
theorem mks31 {H : Heap} (k k' : IntKind) {l c : Nat} (hl : l ≤ c) (hr : c * 24 ≤ 140737488355328) : makeSliceV Try.prog none H 31 (.one (.int k (l : Nat))) (.one (.int k' (c : Nat))) = some (.one (.sl H.length 1 l 0 l), H ++ [some (.row 1 (List.replicate l [.nils]))], []) := make_room E31 k k' hl hr
theorem mks43 {H : Heap} (k k' : IntKind) {l c : Nat} (hl : l ≤ c) (hr : c * 104 ≤ 140737488355328) : makeSliceV Try.prog none H 43 (.one (.int k (l : Nat))) (.one (.int k' (c : Nat))) = some (.one (.sl H.length 8 l 0 l), H ++ [some (.row 8 (List.replicate l [.int .i64 0, .int .i64 0, .int .i64 0, .int .i64 0, .nils, .nils, .str [], .int .i64 0]))], []) := make_room E43 k k' hl hr
theorem mks44 {H : Heap} (k k' : IntKind) {l c : Nat} (hl : l ≤ c) (hr : c * 64 ≤ 140737488355328) : makeSliceV Try.prog none H 44 (.one (.int k (l : Nat))) (.one (.int k' (c : Nat))) = some (.one (.sl H.length 4 l 0 l), H ++ [some (.row 4 (List.replicate l [.int .i64 0, .int .i64 0, .nils, .nils]))], []) := make_room E44 k k' hl hr
theorem mks49 {H : Heap} (k k' : IntKind) {l c : Nat} (hl : l ≤ c) (hr : c * 16 ≤ 140737488355328) : makeSliceV Try.prog none H 49 (.one (.int k (l : Nat))) (.one (.int k' (c : Nat))) = some (.one (.sl H.length 2 l 0 l), H ++ [some (.row 2 (List.replicate l [.int .i64 0, .int .i64 0]))], []) := make_room E49 k k' hl hr
theorem mks56 {H : Heap} (k k' : IntKind) {l c : Nat} (hl : l ≤ c) (hr : c * 1 ≤ 140737488355328) : makeSliceV Try.prog none H 56 (.one (.int k (l : Nat))) (.one (.int k' (c : Nat))) = some (.one (.sl H.length 1 l 0 l), H ++ [some (.row 1 (List.replicate l [.int .u8 0]))], []) := make_room E56 k k' hl hr
theorem mks65 {H : Heap} (k k' : IntKind) {l c : Nat} (hl : l ≤ c) (hr : c * 24 ≤ 140737488355328) : makeSliceV Try.prog none H 65 (.one (.int k (l : Nat))) (.one (.int k' (c : Nat))) = some (.one (.sl H.length 1 l 0 l), H ++ [some (.row 1 (List.replicate l [.nils]))], []) := make_room E65 k k' hl hr
theorem mks111 {H : Heap} (k k' : IntKind) {l c : Nat} (hl : l ≤ c) (hr : c * 1 ≤ 140737488355328) : makeSliceV Try.prog none H 111 (.one (.int k (l : Nat))) (.one (.int k' (c : Nat))) = some (.one (.sl H.length 1 l 0 l), H ++ [some (.row 1 (List.replicate l [.bool false]))], []) := make_room E111 k k' hl hr
theorem mks120 {H : Heap} (k k' : IntKind) {l c : Nat} (hl : l ≤ c) (hr : c * 24 ≤ 140737488355328) : makeSliceV Try.prog none H 120 (.one (.int k (l : Nat))) (.one (.int k' (c : Nat))) = some (.one (.sl H.length 2 l 0 l), H ++ [some (.row 2 (List.replicate l [.str [], .int .i64 0]))], []) := make_room E120 k k' hl hr
theorem mks206 {H : Heap} (k k' : IntKind) {l c : Nat} (hl : l ≤ c) (hr : c * 16 ≤ 140737488355328) : makeSliceV Try.prog none H 206 (.one (.int k (l : Nat))) (.one (.int k' (c : Nat))) = some (.one (.sl H.length 1 l 0 l), H ++ [some (.row 1 (List.replicate l [.str []]))], []) := make_room E206 k k' hl hr
attribute [simp] op_makeSlice mks22 mks28 mks30 mks31 mks43 mks44 mks49 mks56 mks65 mks111 mks120 mks206
end Go.Proofs.Ytdkknhpdjcdmfaa.Abs

/- Functions of the program's own kind, as the machine holds them; to which blocks one goes. -/
set_option linter.unusedSimpArgs false
set_option linter.unusedVariables false
namespace Go.Proofs.Ytdkknhpdjcdmfaa.Abs
open Go Go.RowKit Go.Proofs

structure Ins where
  op : Int
  id : Int
  n : Int
  ty : Int
  args : List Int
  to : List Int
  name : List UInt8
  at_ : Int
structure Fn where
  name : List UInt8
  params : List Int
  ret : Int
  blocks : List (List Ins)
  at_ : Int
def encIns (x : Ins) : List Leaf := [.int .i64 x.op, .int .i64 x.id, .int .i64 x.n, .int .i64 x.ty, .isl (intsOf x.args), .isl (intsOf x.to), .str x.name, .int .i64 x.at_]
def codeOf (l : List Ins) : List (List Leaf) := l.map encIns
def blksOf (bs : List (List Ins)) : List (List Leaf) := bs.map fun l => [.isl (codeOf l)]
def encFn (f : Fn) : List Leaf := [.str f.name, .isl (intsOf f.params), .int .i64 f.ret, .isl (blksOf f.blocks), .int .i64 f.at_]
@[simp] theorem codeOf_length (l : List Ins) : (codeOf l).length = l.length := by simp [codeOf]
@[simp] theorem codeOf_get (l : List Ins) (i : Nat) : (codeOf l)[i]? = (l[i]?).map encIns := by simp [codeOf]
@[simp] theorem codeOf_plain (l : List Ins) : plainR (codeOf l) = true := plainR_map (fun _ => rfl) l
@[simp] theorem codeOf_tree (l : List Ins) : treeR (codeOf l) = true := treeR_map (fun _ => rfl) l
@[simp] theorem blksOf_length (l : List (List Ins)) : (blksOf l).length = l.length := by simp [blksOf]
@[simp] theorem blksOf_get (l : List (List Ins)) (i : Nat) : (blksOf l)[i]? = (l[i]?).map fun l => [.isl (codeOf l)] := by simp [blksOf]
@[simp] theorem blksOf_plain (l : List (List Ins)) : plainR (blksOf l) = true := plainR_map (fun _ => rfl) l
@[simp] theorem blksOf_tree (l : List (List Ins)) : treeR (blksOf l) = true := treeR_map (fun _ => rfl) l
@[simp] theorem encFn_plain (f : Fn) : plainC (encFn f) = true := rfl
@[simp] theorem encFn_tree (f : Fn) : treeC (encFn f) = true := rfl
@[simp] theorem encFn_length (f : Fn) : (encFn f).length = 5 := rfl

structure Ins.Ok (x : Ins) : Prop where
  args : Fit x.args
  to : Fit x.to
structure Fn.Ok (f : Fn) : Prop where
  params : Fit f.params
  blocks : Fit f.blocks
  code : ∀ l, l ∈ f.blocks → Fit l
  each : ∀ l, l ∈ f.blocks → ∀ x, x ∈ l → x.Ok

def addU (out : List Int) (b : Int) : List Int := if out.contains b then out else out ++ [b]
def toB (l : List Ins) : List Int := match l[l.length - 1]? with
  | some x => x.to
  | none => []
def nextB (l : List Ins) : List Int := (toB l).foldl addU []
def Ended (f : Fn) : Prop := ∀ l, l ∈ f.blocks → l ≠ []
theorem addU_len (out : List Int) (b : Int) : (addU out b).length ≤ out.length + 1 := by
  unfold addU; split <;> simp
theorem foldU_len : ∀ (xs out : List Int), (xs.foldl addU out).length ≤ out.length + xs.length
  | [], out => by simp
  | x :: xs, out => by
    have h1 := foldU_len xs (addU out x)
    have h2 := addU_len out x
    simp only [List.foldl_cons, List.length_cons]
    omega
end Go.Proofs.Ytdkknhpdjcdmfaa.Abs

/- To which blocks each block goes. -/
set_option linter.unusedSimpArgs false
set_option linter.unusedVariables false
namespace Go.Proofs.Ytdkknhpdjcdmfaa.Abs
open Go Go.RowKit Go.Proofs

def suS (h : Heap) (f : Fn) (i : Nat) (v28 v27 v26 v4 : V) (rows : List (List Int)) : St :=
  ⟨[(15, I (i : Nat)), (14, I (f.blocks.length : Nat)), (13, Sl (blksOf f.blocks)), (28, v28), (27, v27), (26, v26), (4, v4), (3, .one (.sl h.length 1 f.blocks.length 0 f.blocks.length))], h ++ (some (.row 1 (outR h.length 1 rows)) :: fam rows), []⟩

theorem set_at_self {α : Type} {l : List α} {i : Nat} (hi : i < l.length) (x : α) : (l.set i x)[i]? = some x := by simp [hi]

theorem su_in (h : Heap) (f : Fn) (hf : f.Ok) (k : Nat) (hk : k < f.blocks.length) (rows : List (List Int)) (hr : rows.length = f.blocks.length) (xs : List Int) (hx : Fit xs) :
    lpK 98 Try.f98 52 1 h (suS h f k (I (0 : Nat)) (I (xs.length : Nat)) (Sl (intsOf xs)) (I (k : Nat)) (rows.set k [])) = some (.exit 2, suS h f k (I (xs.length : Nat)) (I (xs.length : Nat)) (Sl (intsOf xs)) (I (k : Nat)) (rows.set k (xs.foldl addU []))) := by
  have hb := hf.blocks
  have hkr : k < rows.length := by omega
  have hkI : ((k : Nat) : Int) < ((f.blocks.length : Nat) : Int) := by omega
  refine loop_list (P := Try.prog) (C := cfg) (sc := runScope Try.prog cfg 52 h.length (cfg.live 98) 0) (N := 52) (n0 := h.length) (K := cfg.live 98) (c := loopAt Try.f98 1) xs addU
    (fun i acc => suS h f k (I (i : Nat)) (I (xs.length : Nat)) (Sl (intsOf xs)) (I (k : Nat)) (rows.set k acc)) (fun acc => (.exit 2, suS h f k (I (xs.length : Nat)) (I (xs.length : Nat)) (Sl (intsOf xs)) (I (k : Nat)) (rows.set k acc))) (fun i acc => acc.length ≤ i) ?_ ?_ [] (by simp)
  · intro i acc x hd hl
    have hi := (List.getElem?_eq_some_iff.1 hd).1
    have hiI : ((i : Nat) : Int) < ((xs.length : Nat) : Int) := by omega
    have hfa : Fit acc := by show acc.length ≤ _; have : xs.length ≤ _ := hx; omega
    refine ⟨?_, by have := addU_len acc x; omega⟩
    have hget := set_at_self hkr acc
    have hln : (rows.set k acc).length = f.blocks.length := by simp [hr]
    by_cases hc : acc.contains x = true
    · have ha : addU acc x = acc := by rw [addU, if_pos hc]
      rw [ha]
      simp (disch := (first | omega | simp (disch := omega) [famK_one, famK_two, hr])) [round_eq, suS, Try.f98, lv98, hd, hi, hiI, hk, hkI, wrap_i64, row_fam0 _ hget, contains _ acc hfa, hc, hr, -getElem?_pos, -tidy_eq, -List.contains_eq_mem]
      refine (tidy_fam' hln ?_ ?_).trans ?_ <;> simp (disch := omega) [famK_one, famK_two, famT_one, famT_two]
    · have hc' : acc.contains x = false := by simpa using hc
      have ha : addU acc x = acc ++ [x] := by rw [addU, if_neg hc]
      have hln2 : (rows.set k (acc ++ [x])).length = f.blocks.length := by simp [hr]
      have hset : (outR h.length 1 (rows.set k acc)).set k [.sl (h.length + (k + 1)) 1 (acc.length + 1) 0 (acc.length + 1)] = outR h.length 1 (rows.set k (acc ++ [x])) := by
        have := outR_set h.length 1 (rows.set k acc) k (acc ++ [x])
        simpa using this
      rw [ha]
      simp (disch := (first | omega | simp (disch := omega) [famK_one, famK_two, hr])) [round_eq, suS, Try.f98, lv98, hd, hi, hiI, hk, hkI, hkr, wrap_i64, room_of, row_fam0 _ hget, row_fam _ _ hget, row_gar hln, set_fam, intsOf_snoc, hset, contains _ acc hfa, hc', hr, -getElem?_pos, -tidy_eq, -List.contains_eq_mem]
      refine (tidy_fam hln2 ?_ ?_).trans ?_ <;> simp (disch := omega) [famK_one, famK_two, famT_one, famT_two]
  · intro acc hl
    have hln : (rows.set k acc).length = f.blocks.length := by simp [hr]
    refine ⟨?_, nofun⟩
    simp (disch := (first | omega | simp (disch := omega) [famK_one, famK_two, hr])) [round_eq, suS, Try.f98, lv98, hr, -getElem?_pos, -tidy_eq]
    refine (tidy_fam' hln ?_ ?_).trans ?_ <;> simp (disch := omega) [famK_one, famK_two, famT_one, famT_two]

def rowsN (n : Nat) (done : List (List Int)) : List (List Int) := done ++ List.replicate (n - done.length) []
theorem rowsN_len {n : Nat} {done : List (List Int)} (h : done.length ≤ n) : (rowsN n done).length = n := by simp [rowsN]; omega
theorem rowsN_set {n : Nat} {done : List (List Int)} (h : done.length < n) (l : List Int) : (rowsN n done).set done.length l = rowsN n (done ++ [l]) := by
  unfold rowsN
  rw [List.set_append_right _ _ (Nat.le_refl _), Nat.sub_self]
  obtain ⟨m, hm⟩ : ∃ m, n - done.length = m + 1 := ⟨n - done.length - 1, by omega⟩
  rw [hm, List.replicate_succ, List.set_cons_zero]
  simp [show n - (done.length + 1) = m by omega]
theorem rowsN_nil {n : Nat} {done : List (List Int)} (h : done.length < n) : (rowsN n done).set done.length [] = rowsN n done := by
  unfold rowsN
  rw [List.set_append_right _ _ (Nat.le_refl _), Nat.sub_self]
  obtain ⟨m, hm⟩ : ∃ m, n - done.length = m + 1 := ⟨n - done.length - 1, by omega⟩
  rw [hm, List.replicate_succ, List.set_cons_zero]
theorem rowsN_all {n : Nat} {done : List (List Int)} (h : done.length = n) : rowsN n done = done := by simp [rowsN, h]

def suO (h : Heap) (f : Fn) (i : Nat) (s : List (List Int) × Option (List Int × Nat)) : St := match s.2 with
  | none => suS h f i .junk .junk .junk .junk (rowsN f.blocks.length s.1)
  | some (xs, k) => suS h f i (I (xs.length : Nat)) (I (xs.length : Nat)) (Sl (intsOf xs)) (I (k : Nat)) (rowsN f.blocks.length s.1)

theorem toB_ok {f : Fn} (hf : f.Ok) {l : List Ins} (hl : l ∈ f.blocks) : Fit (toB l) := by
  unfold toB
  split
  · rename_i x hx
    exact (hf.each l hl x (List.mem_of_getElem? hx)).to
  · simp [Fit]

theorem su_round (h : Heap) (f : Fn) (hf : f.Ok) (he : Ended f) (i : Nat) (l : List Ins) (hl : f.blocks[i]? = some l) (s : List (List Int) × Option (List Int × Nat)) (hs : s.1.length = i) :
    round Try.prog cfg (runScope Try.prog cfg 52 h.length (cfg.live 98) 0) 52 h.length (cfg.live 98) (loopAt Try.f98 0) (suO h f i s) = some (.normal, suO h f (i + 1) (s.1 ++ [nextB l], some (toB l, i))) := by
  obtain ⟨done, o⟩ := s
  simp only at hs
  subst hs
  have hb := hf.blocks
  have hm := List.mem_of_getElem? hl
  have hi := (List.getElem?_eq_some_iff.1 hl).1
  have hiI : ((done.length : Nat) : Int) < ((f.blocks.length : Nat) : Int) := by omega
  have hln := rowsN_len (Nat.le_of_lt hi)
  have hln2 : (rowsN f.blocks.length (done ++ [nextB l])).length = f.blocks.length := rowsN_len (by simp; omega)
  have hne := he l hm
  have hlp : 0 < l.length := List.length_pos_iff.2 hne
  have hlf := hf.code l hm
  obtain ⟨x, hx⟩ : ∃ x, l[l.length - 1]? = some x := ⟨_, List.getElem?_eq_getElem (by omega)⟩
  have hto : toB l = x.to := by unfold toB; rw [hx]
  have hc : ((l.length : Int) - 1) = ((l.length - 1 : Nat) : Int) := by omega
  have hlt1 : l.length - 1 < l.length := by omega
  have e := su_in h f hf done.length hi (rowsN f.blocks.length done) hln (toB l) (toB_ok hf hm)
  rw [rowsN_nil hi, rowsN_set hi, show (toB l).foldl addU [] = nextB l from rfl, hto] at e
  simp [suS, lpK, lv98, Try.f98] at e
  rw [hto]
  cases o with
  | none =>
    simp (disch := (first | omega | simp (disch := omega) [hln])) [round_eq, suO, suS, Try.f98, lv98, hl, hi, hiI, hx, hc, hlt1, encIns, wrap_i64, -getElem?_pos, -tidy_eq]
    rw [tidy_fam' hln ?_ ?_]
    · simp (disch := (first | omega | simp (disch := omega) [hln])) [famT_one, famT_two, e, wrap_i64, -getElem?_pos, -tidy_eq]
      refine (tidy_fam' hln2 ?_ ?_).trans ?_ <;> simp (disch := omega) [famK_one, famK_two, famT_one, famT_two]
    all_goals simp (disch := omega) [famK_one, famK_two]
  | some p =>
    simp (disch := (first | omega | simp (disch := omega) [hln])) [round_eq, suO, suS, Try.f98, lv98, hl, hi, hiI, hx, hc, hlt1, encIns, wrap_i64, -getElem?_pos, -tidy_eq]
    rw [tidy_fam' hln ?_ ?_]
    · simp (disch := (first | omega | simp (disch := omega) [hln])) [famT_one, famT_two, e, wrap_i64, -getElem?_pos, -tidy_eq]
      refine (tidy_fam' hln2 ?_ ?_).trans ?_ <;> simp (disch := omega) [famK_one, famK_two, famT_one, famT_two]
    all_goals simp (disch := omega) [famK_one, famK_two]

theorem su_loop (h : Heap) (f : Fn) (hf : f.Ok) (he : Ended f) :
    ∃ o, lpK 98 Try.f98 52 0 h (suO h f 0 ([], none)) = some (.exit 0, suO h f f.blocks.length (f.blocks.map nextB, o)) := by
  have key := loop_list (P := Try.prog) (C := cfg) (sc := runScope Try.prog cfg 52 h.length (cfg.live 98) 0) (N := 52) (n0 := h.length) (K := cfg.live 98) (c := loopAt Try.f98 0) f.blocks (fun (s : List (List Int) × Option (List Int × Nat)) l => (s.1 ++ [nextB l], some (toB l, s.1.length)))
    (fun i s => suO h f i s) (fun s => (.exit 0, suO h f f.blocks.length s)) (fun i s => s.1.length = i) ?_ ?_ ([], none) rfl
  · have hfold : ∀ (ls : List (List Ins)) (s : List (List Int) × Option (List Int × Nat)), ∃ o, ls.foldl (fun s l => (s.1 ++ [nextB l], some (toB l, s.1.length))) s = (s.1 ++ ls.map nextB, o) := by
      intro ls
      induction ls with
      | nil => intro s; exact ⟨s.2, by simp⟩
      | cons l ls ih =>
        intro s
        obtain ⟨o, ho⟩ := ih (s.1 ++ [nextB l], some (toB l, s.1.length))
        exact ⟨o, by rw [List.foldl_cons, ho]; simp⟩
    obtain ⟨o, ho⟩ := hfold f.blocks ([], none)
    rw [ho] at key
    simp only [List.nil_append] at key
    exact ⟨o, key⟩
  · intro i s l hl hs
    refine ⟨?_, by simp [hs]⟩
    rw [su_round h f hf he i l hl s hs, hs]
  · intro s hs
    refine ⟨?_, nofun⟩
    obtain ⟨done, o⟩ := s
    simp only at hs
    have hln := rowsN_len (Nat.le_of_eq hs)
    have hb := hf.blocks
    cases o <;> simp (disch := (first | omega | simp (disch := omega) [hln])) [round_eq, suO, suS, Try.f98, lv98, -getElem?_pos, -tidy_eq] <;>
    (refine (tidy_fam' hln ?_ ?_).trans ?_ <;> simp (disch := omega) [famK_one, famK_two, famT_one, famT_two])

theorem succs (h : Heap) (f : Fn) (hf : f.Ok) (he : Ended f) (hn : f.blocks.length ≤ 100000) : CX 98 [.agg (encFn f)] h = some (Sl (listsOf (f.blocks.map nextB)), h, []) := by
  refine CI_of Try.func98 rfl 0 ?_
  have hk : cfg.keep 98 = 0 := rfl
  have hb := hf.blocks
  obtain ⟨o, e⟩ := su_loop h f hf he
  have hln : (f.blocks.map nextB).length = f.blocks.length := by simp
  have hz : rowsN f.blocks.length [] = List.replicate f.blocks.length [] := by simp [rowsN]
  simp (disch := (first | omega | simp (disch := omega) [])) [Try.f98, lv98, hk, encFn, room_of, -tidy_eq]
  rw [tidy_fam0 (j := 1) (n := f.blocks.length) ?_ ?_ ?_]
  · cases o <;> simp [suO, suS, lpK, lv98, Try.f98, rowsN_all hln, hz] at e <;>
    simp (disch := (first | omega | simp (disch := omega) [])) [famT_one, famT_two, e, hk, frz_outR', -tidy_eq]
  all_goals simp (disch := omega) [famK_one, famK_two]
end Go.Proofs.Ytdkknhpdjcdmfaa.Abs

/- From which blocks each block is gone to. -/
set_option linter.unusedSimpArgs false
set_option linter.unusedVariables false
namespace Go.Proofs.Ytdkknhpdjcdmfaa.Abs
open Go Go.RowKit Go.Proofs

def pdS (h : Heap) (ss : List (List Int)) (i : Nat) (v22 v21 v20 v4 : V) (rows : List (List Int)) : St :=
  ⟨[(15, I (i : Nat)), (14, I (ss.length : Nat)), (13, Sl (listsOf ss)), (22, v22), (21, v21), (20, v20), (4, v4), (3, .one (.sl h.length 1 ss.length 0 ss.length))], h ++ (some (.row 1 (outR h.length 1 rows)) :: fam rows), []⟩

def addP (k : Nat) (rows : List (List Int)) (b : Int) : List (List Int) := rows.set b.toNat (rows.getD b.toNat [] ++ [(k : Int)])
theorem addP_len (k : Nat) (rows : List (List Int)) (b : Int) : (addP k rows b).length = rows.length := by simp [addP]
theorem foldP_len (k : Nat) : ∀ (xs : List Int) (rows : List (List Int)), (xs.foldl (addP k) rows).length = rows.length
  | [], rows => rfl
  | x :: xs, rows => by rw [List.foldl_cons, foldP_len k xs, addP_len]
def Low (m : Nat) (rows : List (List Int)) : Prop := ∀ l, l ∈ rows → l.length ≤ m
theorem addP_low {k m : Nat} {rows : List (List Int)} {b : Int} (h : Low m rows) : Low (m + 1) (addP k rows b) := by
  intro l hl
  unfold addP at hl
  rcases List.mem_or_eq_of_mem_set hl with hl | rfl
  · have := h l hl; omega
  · rw [List.length_append]
    have : (rows.getD b.toNat []).length ≤ m := by
      rw [List.getD]
      cases he : rows[b.toNat]? with
      | none => simp
      | some x => exact h x (List.mem_of_getElem? he)
    simp
    exact this

theorem pd_in (h : Heap) (ss : List (List Int)) (hs : ss.length ≤ 100000) (k m : Nat) (hm : m ≤ 100000000) (hk : k < ss.length) (xs : List Int) (hx : xs.length ≤ 100000) (hr : ∀ b, b ∈ xs → 0 ≤ b ∧ b < ss.length) (rows : List (List Int)) (hrl : rows.length = ss.length) (hlow : Low m rows) :
    lpK 75 Try.f75 39 1 h (pdS h ss k (I (0 : Nat)) (I (xs.length : Nat)) (Sl (intsOf xs)) (I (k : Nat)) rows) = some (.exit 2, pdS h ss k (I (xs.length : Nat)) (I (xs.length : Nat)) (Sl (intsOf xs)) (I (k : Nat)) (xs.foldl (addP k) rows)) := by
  refine loop_list (P := Try.prog) (C := cfg) (sc := runScope Try.prog cfg 39 h.length (cfg.live 75) 0) (N := 39) (n0 := h.length) (K := cfg.live 75) (c := loopAt Try.f75 1) xs (addP k)
    (fun i rows => pdS h ss k (I (i : Nat)) (I (xs.length : Nat)) (Sl (intsOf xs)) (I (k : Nat)) rows) (fun rows => (.exit 2, pdS h ss k (I (xs.length : Nat)) (I (xs.length : Nat)) (Sl (intsOf xs)) (I (k : Nat)) rows)) (fun i rows => rows.length = ss.length ∧ Low (m + i) rows) ?_ ?_ rows ⟨hrl, hlow⟩
  · rintro i rows x hd ⟨hrl, hlow⟩
    have hi := (List.getElem?_eq_some_iff.1 hd).1
    have hiI : ((i : Nat) : Int) < ((xs.length : Nat) : Int) := by omega
    have hb := hr x (List.mem_of_getElem? hd)
    refine ⟨?_, by rw [addP_len, hrl], addP_low hlow⟩
    have hbn : x.toNat < rows.length := by omega
    have hbn2 : x.toNat < ss.length := by omega
    have hx0 := hb.1
    obtain ⟨acc, hget⟩ : ∃ acc, rows[x.toNat]? = some acc := ⟨_, List.getElem?_eq_getElem hbn⟩
    have ha : addP k rows x = rows.set x.toNat (acc ++ [(k : Int)]) := by unfold addP; rw [List.getD, hget]; rfl
    have hal := hlow acc (List.mem_of_getElem? hget)
    have hln2 : (rows.set x.toNat (acc ++ [(k : Int)])).length = ss.length := by simp [hrl]
    have hset : (outR h.length 1 rows).set x.toNat [.sl (h.length + (x.toNat + 1)) 1 (acc.length + 1) 0 (acc.length + 1)] = outR h.length 1 (rows.set x.toNat (acc ++ [(k : Int)])) := by
      have := outR_set h.length 1 rows x.toNat (acc ++ [(k : Int)])
      simpa using this
    rw [ha]
    simp (disch := (first | omega | simp (disch := omega) [hrl])) [round_eq, pdS, Try.f75, lv75, hd, hi, hiI, hx0, hbn, hbn2, wrap_i64, room_of, hget, row_fam0 _ hget, row_fam _ _ hget, row_gar hrl, set_fam, intsOf_snoc, hset, hrl, -getElem?_pos, -tidy_eq]
    refine (tidy_fam hln2 ?_ ?_).trans ?_ <;> simp (disch := omega) [famK_one, famK_two, famT_one, famT_two]
  · rintro rows ⟨hrl, hlow⟩
    refine ⟨?_, nofun⟩
    simp (disch := (first | omega | simp (disch := omega) [hrl])) [round_eq, pdS, Try.f75, lv75, hrl, -getElem?_pos, -tidy_eq]
    refine (tidy_fam' hrl ?_ ?_).trans ?_ <;> simp (disch := omega) [famK_one, famK_two, famT_one, famT_two]

theorem foldP_low {k : Nat} : ∀ (xs : List Int) {m : Nat} {rows : List (List Int)}, Low m rows → Low (m + xs.length) (xs.foldl (addP k) rows)
  | [], m, rows, h => h
  | x :: xs, m, rows, h => by
    have := foldP_low (k := k) xs (addP_low (k := k) (b := x) h)
    rw [List.foldl_cons, List.length_cons, show m + (xs.length + 1) = m + 1 + xs.length by omega]
    exact this
theorem Low.mono {m m' : Nat} {rows : List (List Int)} (h : Low m rows) (hm : m ≤ m') : Low m' rows := fun l hl => Nat.le_trans (h l hl) hm

def pdO (h : Heap) (ss : List (List Int)) (i : Nat) (s : List (List Int) × Nat × Option (List Int)) : St := match s.2.2 with
  | none => pdS h ss i .junk .junk .junk .junk s.1
  | some xs => pdS h ss i (I (xs.length : Nat)) (I (xs.length : Nat)) (Sl (intsOf xs)) (I ((s.2.1 - 1 : Nat) : Nat)) s.1

structure Edges (ss : List (List Int)) : Prop where
  len : ss.length ≤ 1000
  each : ∀ l, l ∈ ss → l.length ≤ 1000 ∧ ∀ b, b ∈ l → 0 ≤ b ∧ b < ss.length

theorem pd_round (h : Heap) (ss : List (List Int)) (hs : Edges ss) (i : Nat) (l : List Int) (hl : ss[i]? = some l) (s : List (List Int) × Nat × Option (List Int)) (h1 : s.1.length = ss.length) (h2 : s.2.1 = i) (h3 : Low (1000 * i) s.1) :
    round Try.prog cfg (runScope Try.prog cfg 39 h.length (cfg.live 75) 0) 39 h.length (cfg.live 75) (loopAt Try.f75 0) (pdO h ss i s) = some (.normal, pdO h ss (i + 1) (l.foldl (addP i) s.1, i + 1, some l)) := by
  obtain ⟨rows, k, o⟩ := s
  simp only at h1 h2 h3
  subst h2
  have hm := List.mem_of_getElem? hl
  have hi := (List.getElem?_eq_some_iff.1 hl).1
  have hiI : ((k : Nat) : Int) < ((ss.length : Nat) : Int) := by omega
  have he := hs.each l hm
  have hsl := hs.len
  have hln2 : (l.foldl (addP k) rows).length = ss.length := by rw [foldP_len, h1]
  have e := pd_in h ss (by omega) k (1000 * k) (by omega) hi l (by omega) he.2 rows h1 h3
  simp [pdS, lpK, lv75, Try.f75] at e
  cases o with
  | none =>
    simp (disch := (first | omega | simp (disch := omega) [h1])) [round_eq, pdO, pdS, Try.f75, lv75, hl, hi, hiI, wrap_i64, -getElem?_pos, -tidy_eq]
    rw [tidy_fam' h1 ?_ ?_]
    · simp (disch := (first | omega | simp (disch := omega) [h1])) [famT_one, famT_two, e, wrap_i64, -getElem?_pos, -tidy_eq]
      refine (tidy_fam' hln2 ?_ ?_).trans ?_ <;> simp (disch := omega) [famK_one, famK_two, famT_one, famT_two]
    all_goals simp (disch := omega) [famK_one, famK_two]
  | some p =>
    simp (disch := (first | omega | simp (disch := omega) [h1])) [round_eq, pdO, pdS, Try.f75, lv75, hl, hi, hiI, wrap_i64, -getElem?_pos, -tidy_eq]
    rw [tidy_fam' h1 ?_ ?_]
    · simp (disch := (first | omega | simp (disch := omega) [h1])) [famT_one, famT_two, e, wrap_i64, -getElem?_pos, -tidy_eq]
      refine (tidy_fam' hln2 ?_ ?_).trans ?_ <;> simp (disch := omega) [famK_one, famK_two, famT_one, famT_two]
    all_goals simp (disch := omega) [famK_one, famK_two]

def predsG : Nat → List (List Int) → List (List Int) → List (List Int)
  | _, [], rows => rows
  | k, l :: ls, rows => predsG (k + 1) ls (l.foldl (addP k) rows)
def predsF (ss : List (List Int)) : List (List Int) := predsG 0 ss (List.replicate ss.length [])
theorem predsG_len : ∀ (k : Nat) (ls rows : List (List Int)), (predsG k ls rows).length = rows.length
  | _, [], _ => rfl
  | k, l :: ls, rows => by rw [predsG, predsG_len, foldP_len]
@[simp] theorem predsF_len (ss : List (List Int)) : (predsF ss).length = ss.length := by simp [predsF, predsG_len]

theorem pd_loop (h : Heap) (ss : List (List Int)) (hs : Edges ss) :
    ∃ k o, lpK 75 Try.f75 39 0 h (pdO h ss 0 (List.replicate ss.length [], 0, none)) = some (.exit 0, pdO h ss ss.length (predsF ss, k, o)) := by
  have key := loop_list (P := Try.prog) (C := cfg) (sc := runScope Try.prog cfg 39 h.length (cfg.live 75) 0) (N := 39) (n0 := h.length) (K := cfg.live 75) (c := loopAt Try.f75 0) ss (fun (s : List (List Int) × Nat × Option (List Int)) l => (l.foldl (addP s.2.1) s.1, s.2.1 + 1, some l))
    (fun i s => pdO h ss i s) (fun s => (.exit 0, pdO h ss ss.length s)) (fun i s => s.1.length = ss.length ∧ s.2.1 = i ∧ Low (1000 * i) s.1) ?_ ?_ (List.replicate ss.length [], 0, none) ⟨by simp, rfl, fun l hl => by rw [List.eq_of_mem_replicate hl]; simp⟩
  · have hfold : ∀ (ls : List (List Int)) (s : List (List Int) × Nat × Option (List Int)), ∃ k o, ls.foldl (fun (s : List (List Int) × Nat × Option (List Int)) l => (l.foldl (addP s.2.1) s.1, s.2.1 + 1, some l)) s = (predsG s.2.1 ls s.1, k, o) := by
      intro ls
      induction ls with
      | nil => intro s; exact ⟨s.2.1, s.2.2, rfl⟩
      | cons l ls ih =>
        intro s
        obtain ⟨k, o, ho⟩ := ih (l.foldl (addP s.2.1) s.1, s.2.1 + 1, some l)
        exact ⟨k, o, by rw [List.foldl_cons, ho]; rfl⟩
    obtain ⟨k, o, ho⟩ := hfold ss (List.replicate ss.length [], 0, none)
    rw [ho] at key
    exact ⟨k, o, key⟩
  · rintro i s l hl ⟨h1, h2, h3⟩
    have hm := hs.each l (List.mem_of_getElem? hl)
    refine ⟨?_, by simp only; rw [foldP_len, h1], by simp only; omega, ?_⟩
    · rw [pd_round h ss hs i l hl s h1 h2 h3, h2]
    · simp only
      exact (foldP_low l h3).mono (by omega)
  · rintro s ⟨h1, h2, h3⟩
    refine ⟨?_, nofun⟩
    obtain ⟨rows, k, o⟩ := s
    simp only at h1 h2 h3
    have hsl := hs.len
    cases o <;> simp (disch := (first | omega | simp (disch := omega) [h1])) [round_eq, pdO, pdS, Try.f75, lv75, -getElem?_pos, -tidy_eq] <;>
    (refine (tidy_fam' h1 ?_ ?_).trans ?_ <;> simp (disch := omega) [famK_one, famK_two, famT_one, famT_two])

structure Fn.Fine (f : Fn) : Prop where
  ok : f.Ok
  ended : Ended f
  len : f.blocks.length ≤ 1000
  edges : Edges (f.blocks.map nextB)

theorem preds (h : Heap) (f : Fn) (hf : f.Fine) : CX 75 [.agg (encFn f)] h = some (Sl (listsOf (predsF (f.blocks.map nextB))), h, []) := by
  refine CI_of Try.func75 rfl 0 ?_
  have hk : cfg.keep 75 = 0 := rfl
  have hb := hf.len
  have e1 := fun h => succs h f hf.ok hf.ended (by omega)
  simp [encFn] at e1
  obtain ⟨k, o, e⟩ := pd_loop h (f.blocks.map nextB) hf.edges
  have hln : (predsF (f.blocks.map nextB)).length = f.blocks.length := by simp
  have hz : (f.blocks.map nextB).length = f.blocks.length := by simp
  simp (disch := (first | omega | simp (disch := omega) [])) [Try.f75, lv75, hk, encFn, e1, room_of, -tidy_eq]
  rw [tidy_fam0 (j := 1) (n := f.blocks.length) ?_ ?_ ?_]
  · cases o <;> simp [pdO, pdS, lpK, lv75, Try.f75, hz] at e <;>
    simp (disch := (first | omega | simp (disch := omega) [])) [famT_one, famT_two, e, hk, hln, frz_outR', -tidy_eq]
  all_goals simp (disch := omega) [famK_one, famK_two]
end Go.Proofs.Ytdkknhpdjcdmfaa.Abs

/- Calls of values; conversions between numbers. -/
set_option linter.unusedSimpArgs false
set_option linter.unusedVariables false
namespace Go.Proofs.Ytdkknhpdjcdmfaa.Abs
open Go Go.RowKit Go.Proofs

def callK (P : Program) (cf : CF) (h : Heap) (vs : List V) : V → Res
  | .one (.fn g caps) => if callee P g then cf g (vs ++ caps.map V.one) h else none
  | _ => none
theorem op_callv {P : Program} {cf : CF} {slot : Option Nat} {T : Tmps} {h : Heap} {dst : Option Nat} {ty : TypeId} {pos : String} {after : Array Edge} {guard : Option (Nat × Bool)} (i : Nat) (args : Array Operand) (tys : Array TypeId) :
    absOp P cf slot T h ⟨dst, .call { callee := .value (.tmp i), args := args, argTypes := tys }, ty, pos, after, guard⟩ = callK P cf h (args.toList.map (ev T)) (tget T i) := by
  simp only [absOp, ev, callK]
  split <;> simp_all
theorem callK_fn (P : Program) (cf : CF) (h : Heap) (vs : List V) (g : FuncId) (caps : List Leaf) : callK P cf h vs (.one (.fn g caps)) = if callee P g then cf g (vs ++ caps.map V.one) h else none := rfl
theorem fzT_fn0 {h : Heap} {n0 : Nat} {L : List (Option Nat)} (f : FuncId) : fzT h n0 L (.fn f []) = some (.fn f []) := rfl
theorem ev_func {t : Tmps} (f : FuncId) : ev t (.func f) = .one (.fn f []) := rfl
attribute [simp] op_callv callK_fn fzT_fn0 ev_func

theorem wrap_u64 {n : Int} (h1 : 0 ≤ n) (h2 : n ≤ 9223372036854775807) : IntKind.u64.wrap n = n := by
  simp [IntKind.wrap, IntKind.min, IntKind.max, IntKind.signed, IntKind.bits]
  omega
theorem conv_int {P : Program} {h : Heap} (s d : TypeId) (k : IntKind) (n : Int) : convertV P h s d (.one (.int k n)) = match P.underlying s, P.underlying d with
    | some _, some (.int k') => some (.one (.int k' (k'.wrap n)))
    | _, _ => none := by
  unfold convertV
  cases P.underlying s with
  | none => rfl
  | some a =>
    cases P.underlying d with
    | none => cases a <;> rfl
    | some b =>
      cases b <;> cases a <;> try rfl
      rename_i e
      simp only [view, Option.bind_none]
      split <;> first | rfl | (split <;> rfl)
attribute [simp] conv_int
end Go.Proofs.Ytdkknhpdjcdmfaa.Abs

/- What a call does to an object of its caller's: a heap with one object told anew. Bytes. -/
set_option linter.unusedSimpArgs false
set_option linter.unusedVariables false
namespace Go.Proofs.Ytdkknhpdjcdmfaa.Abs
open Go Go.RowKit Go.Proofs

def nilK : V → Option V
  | .one (.ptr a b c d) => some (.one (.ptr a b c d))
  | .one (.iptr a b) => some (.one (.iptr a b))
  | .one (.fn a b) => some (.one (.fn a b))
  | _ => none
@[simp] theorem op_nilCheck {P : Program} {cf : CF} {slot : Option Nat} {T : Tmps} {h : Heap} {dst : Option Nat} {ty : TypeId} {pos : String} {after : Array Edge} {guard : Option (Nat × Bool)} (x : Operand) :
    absOp P cf slot T h ⟨dst, .nilCheck x, ty, pos, after, guard⟩ = pureR h (nilK (ev T x)) := by
  simp only [absOp, nilK]
  split <;> simp_all [pureR]
attribute [simp] nilK

def updH (h : Heap) (k z : Nat) (es : List (List Leaf)) : Heap := h.set k (some (.row z es))
section
variable {h t : Heap} {k z : Nat} {es : List (List Leaf)}
@[simp] theorem upd_length : (updH h k z es).length = h.length := by simp [updH]
theorem upd_self (hr : h[k]? = some (some (.row z es))) : updH h k z es = h := by
  unfold updH
  apply List.ext_getElem?
  intro i
  rw [List.getElem?_set]
  split
  · rename_i hi; subst hi
    rw [hr]
    split
    · rfl
    · rename_i hn; rw [List.getElem?_eq_none (by omega)] at hr; cases hr
  · rfl
@[simp] theorem upd_get (hk : k < h.length) : (updH h k z es)[k]? = some (some (.row z es)) := by simp [updH, hk]
@[simp] theorem upd_get' (hk : k < h.length) : (updH h k z es ++ t)[k]? = some (some (.row z es)) := by
  rw [List.getElem?_append_left (by simpa using hk), upd_get hk]
@[simp] theorem upd_row (hk : k < h.length) (sz : Nat) : rowAt (updH h k z es) k sz = if es.length = sz then some (z, es) else none := by
  simp [rowAt, upd_get hk]
@[simp] theorem upd_row' (hk : k < h.length) (sz : Nat) : rowAt (updH h k z es ++ t) k sz = if es.length = sz then some (z, es) else none := by
  simp [rowAt, upd_get' hk]
theorem upd_ne {k2 : Nat} (hn : k2 ≠ k) : (updH h k z es)[k2]? = h[k2]? := by
  unfold updH
  rw [List.getElem?_set_ne (fun e => hn e.symm)]
theorem upd_row_ne {k2 : Nat} (hn : k2 ≠ k) (sz : Nat) : rowAt (updH h k z es) k2 sz = rowAt h k2 sz := by
  simp only [rowAt, upd_ne hn]
theorem upd_row_ne' {k2 : Nat} (hn : k2 ≠ k) (hl : k2 < h.length) (sz : Nat) : rowAt (updH h k z es ++ t) k2 sz = rowAt h k2 sz := by
  simp only [rowAt]
  rw [List.getElem?_append_left (by simpa using hl), upd_ne hn]
@[simp] theorem upd_at0 : (updH h k z es ++ t)[h.length]? = nthO t 0 := by
  have := heap_at0 (h := updH h k z es) (t := t); rwa [upd_length] at this
@[simp] theorem upd_at (j : Nat) : (updH h k z es ++ t)[h.length + j]? = nthO t j := by
  have := heap_at (h := updH h k z es) (t := t) j; rwa [upd_length] at this
@[simp] theorem upd_row_at0 (sz : Nat) : rowAt (updH h k z es ++ t) h.length sz = rowAt t 0 sz := by
  have := row_at0 (h := updH h k z es) (t := t) sz; rwa [upd_length] at this
@[simp] theorem upd_row_at (j sz : Nat) : rowAt (updH h k z es ++ t) (h.length + j) sz = rowAt t j sz := by
  have := row_at (h := updH h k z es) (t := t) j sz; rwa [upd_length] at this
@[simp] theorem upd_set (z' : Nat) (es' : List (List Leaf)) : (updH h k z es).set k (some (.row z' es')) = updH h k z' es' := by
  simp [updH, List.set_set]
@[simp] theorem upd_set' (hk : k < h.length) (z' : Nat) (es' : List (List Leaf)) : (updH h k z es ++ t).set k (some (.row z' es')) = updH h k z' es' ++ t := by
  rw [List.set_append_left _ _ (by simpa using hk), upd_set]
@[simp] theorem upd_set_at0 (o : Option AO) : (updH h k z es ++ t).set h.length o = updH h k z es ++ t.set 0 o := by
  have := set_at0 (h := updH h k z es) (t := t) o; rwa [upd_length] at this
@[simp] theorem upd_set_at (j : Nat) (o : Option AO) : (updH h k z es ++ t).set (h.length + j) o = updH h k z es ++ t.set j o := by
  have := set_at (h := updH h k z es) (t := t) j o; rwa [upd_length] at this
@[simp] theorem upd_take0 : (updH h k z es).take h.length = updH h k z es := by
  rw [List.take_of_length_le (by simp)]
@[simp] theorem upd_take : (updH h k z es ++ t).take h.length = updH h k z es := by
  have := List.take_left (l₁ := updH h k z es) (l₂ := t); rwa [upd_length] at this
end

@[simp] theorem fzH_cons {h : Heap} {n0 : Nat} {L : List (Option Nat)} (id : Nat) (ids : List Nat) (acc : Heap) : fzH h n0 L (id :: ids) acc = (objK h n0 L h[id]?).bind fun o => fzH h n0 L ids (acc.set id o) := by
  rw [fzH]
  cases h[id]? with
  | none => rfl
  | some o => cases o with
    | none => rfl
    | some o => cases o with
      | row z es => simp only [objK, fzO, ← rows_eq]; cases mapO (mapO (fzT h n0 L)) es <;> rfl
      | mp es => simp only [objK]; cases fzO h n0 L (.mp es) <;> rfl

@[simp] theorem wsOf_one {n0 k : Nat} (hk : k < n0) : wsOf n0 [k] = [k] := by
  simp [wsOf, hk, List.eraseDups_cons]
@[simp] theorem wsOf_dup {n0 k : Nat} (ws : List Nat) : wsOf n0 (k :: k :: ws) = wsOf n0 (k :: ws) := by
  unfold wsOf
  by_cases hk : k < n0
  · simp [hk, List.eraseDups_cons]
  · simp [hk]
@[simp] theorem wsOf_skip {n0 k i : Nat} (ws : List Nat) (hi : n0 ≤ i) : wsOf n0 (k :: i :: ws) = wsOf n0 (k :: ws) := by
  unfold wsOf
  by_cases hk : k < n0
  · simp [hk, show ¬ i < n0 by omega]
  · simp [hk, show ¬ i < n0 by omega]

@[simp] theorem dups_nil {α : Type} [BEq α] : ([] : List α).eraseDups = [] := rfl
@[simp] theorem dups_one {α : Type} [BEq α] (a : α) : [a].eraseDups = [a] := by simp [List.eraseDups_cons]

def deInts (es : List (List Leaf)) : List Int := es.map fun c => match c with
  | [.int _ n] => n
  | _ => 0
@[simp] theorem deInts_ints (xs : List Int) : deInts (intsOf xs) = xs := by
  unfold deInts intsOf
  rw [List.map_map]
  exact (List.map_congr_left fun _ _ => rfl).trans (List.map_id _)

def u8sOf (xs : List Int) : List (List Leaf) := xs.map fun n => [.int .u8 n]
@[simp] theorem u8sOf_length (xs : List Int) : (u8sOf xs).length = xs.length := by simp [u8sOf]
@[simp] theorem u8sOf_get (xs : List Int) (i : Nat) : (u8sOf xs)[i]? = (xs[i]?).map fun n => [.int .u8 n] := by simp [u8sOf]
@[simp] theorem u8sOf_plain (xs : List Int) : plainR (u8sOf xs) = true := plainR_map (fun _ => rfl) xs
@[simp] theorem u8sOf_tree (xs : List Int) : treeR (u8sOf xs) = true := treeR_map (fun _ => rfl) xs
theorem u8sOf_snoc (xs : List Int) (n : Int) : u8sOf xs ++ [[.int .u8 n]] = u8sOf (xs ++ [n]) := by simp [u8sOf]
theorem u8sOf_app (xs ys : List Int) : u8sOf xs ++ u8sOf ys = u8sOf (xs ++ ys) := by simp [u8sOf]
@[simp] theorem u8sOf_nil : u8sOf [] = [] := rfl
theorem u8sOf_one (n : Int) : [[Leaf.int .u8 n]] = u8sOf [n] := rfl
@[simp] theorem sized_bytes (xs : List Int) : sized 1 (u8sOf xs) = true := sized_map (n := 1) (f := fun n => [.int .u8 n]) (fun _ => rfl) xs

theorem wrap_u8 (n : Int) : IntKind.u8.wrap n = n % 256 := by
  simp [IntKind.wrap, IntKind.min, IntKind.max, IntKind.signed, IntKind.bits]
theorem u8_or (n : Int) : IntKind.u8.wrap ((BitVec.ofInt IntKind.u8.bits (IntKind.u8.wrap n) ||| BitVec.ofInt IntKind.u8.bits 128).toNat : Int) = n % 128 + 128 := by
  have key : ∀ m : Fin 256, ((BitVec.ofInt 8 (m.val : Int) ||| BitVec.ofInt 8 128).toNat : Int) = (m.val : Int) % 128 + 128 := by decide +kernel
  have h1 : n % 256 = (((n % 256).toNat : Nat) : Int) := by omega
  have h2 := key ⟨(n % 256).toNat, by omega⟩
  simp only at h2
  rw [wrap_u8 n, h1]
  show IntKind.u8.wrap ((BitVec.ofInt 8 _ ||| BitVec.ofInt 8 128).toNat : Int) = _
  rw [h2, wrap_u8]
  omega
theorem u8_or' (n : Int) : IntKind.u8.wrap (((IntKind.u8.wrap n % 2 ^ IntKind.u8.bits).toNat ||| 128 % 2 ^ IntKind.u8.bits : Nat) : Int) = n % 128 + 128 := by
  have := u8_or n
  simpa using this
theorem u8_and (n : Int) (h0 : 0 ≤ n) (h1 : n < 256) : IntKind.u8.wrap ((BitVec.ofInt IntKind.u8.bits n &&& BitVec.ofInt IntKind.u8.bits 127).toNat : Int) = n % 128 := by
  have key : ∀ m : Fin 256, ((BitVec.ofInt 8 (m.val : Int) &&& BitVec.ofInt 8 127).toNat : Int) = (m.val : Int) % 128 := by decide +kernel
  have h3 : n = ((n.toNat : Nat) : Int) := by omega
  have h2 := key ⟨n.toNat, by omega⟩
  simp only at h2
  rw [h3]
  show IntKind.u8.wrap ((BitVec.ofInt 8 _ &&& BitVec.ofInt 8 127).toNat : Int) = _
  rw [h2, wrap_u8]
  omega
theorem u8_and' (n : Int) (h0 : 0 ≤ n) (h1 : n < 256) : IntKind.u8.wrap (((n % 2 ^ IntKind.u8.bits).toNat &&& 127 % 2 ^ IntKind.u8.bits : Nat) : Int) = n % 128 := by
  have := u8_and n h0 h1
  simpa using this
end Go.Proofs.Ytdkknhpdjcdmfaa.Abs

/- A walk through blocks: what it works on is its caller's. -/
set_option linter.unusedSimpArgs false
set_option linter.unusedVariables false
namespace Go.Proofs.Ytdkknhpdjcdmfaa.Abs
open Go Go.RowKit Go.Proofs

def boolsOf (bs : List Bool) : List (List Leaf) := bs.map fun b => [.bool b]
@[simp] theorem boolsOf_length (bs : List Bool) : (boolsOf bs).length = bs.length := by simp [boolsOf]
@[simp] theorem boolsOf_get (bs : List Bool) (i : Nat) : (boolsOf bs)[i]? = (bs[i]?).map fun b => [.bool b] := by simp [boolsOf]
@[simp] theorem boolsOf_plain (bs : List Bool) : plainR (boolsOf bs) = true := plainR_map (fun _ => rfl) bs
@[simp] theorem boolsOf_tree (bs : List Bool) : treeR (boolsOf bs) = true := treeR_map (fun _ => rfl) bs
@[simp] theorem sized_bools (bs : List Bool) : sized 1 (boolsOf bs) = true := sized_map (n := 1) (f := fun b : Bool => [Leaf.bool b]) (fun _ => rfl) bs
theorem boolsOf_set (bs : List Bool) (i : Nat) (b : Bool) : (boolsOf bs).set i [.bool b] = boolsOf (bs.set i b) := by simp [boolsOf, List.map_set]

def stL (n0 : Nat) : Leaf → Bool
  | .ptr id _ _ _ => decide (id < n0)
  | .sl id _ _ _ _ => decide (id < n0)
  | .map id => decide (id < n0)
  | .fn _ caps => caps.all treeL
  | _ => true
@[simp] theorem stL_int (n0 : Nat) (k : IntKind) (n : Int) : stL n0 (.int k n) = true := rfl
@[simp] theorem stL_bool (n0 : Nat) (b : Bool) : stL n0 (.bool b) = true := rfl
@[simp] theorem stL_isl (n0 : Nat) (es : List (List Leaf)) : stL n0 (.isl es) = true := rfl
@[simp] theorem stL_iptr (n0 : Nat) (cs : List Leaf) (o : Nat) : stL n0 (.iptr cs o) = true := rfl
@[simp] theorem stL_ptr (n0 id sz i off : Nat) : stL n0 (.ptr id sz i off) = decide (id < n0) := rfl
@[simp] theorem stL_sl (n0 id s sz off len : Nat) : stL n0 (.sl id s sz off len) = decide (id < n0) := rfl
theorem stL_fz {H : Heap} {n0 : Nat} {L : List (Option Nat)} {l : Leaf} (h : stL n0 l = true) : fzT H n0 L l = some l := by
  cases l with
  | fn f caps =>
    show (mapO (fzR H n0 L) caps).map (Leaf.fn f) = _
    rw [mapO_id fun x hx => ?_]
    · rfl
    · have hx' := List.all_eq_true.1 h x hx
      cases x <;> first | rfl | (simp [treeL, plainL] at hx'; done)
  | ptr id sz i off => simp at h; rw [fzT_ptr, if_neg (by omega)]
  | sl id s sz off len => simp at h; rw [fzT_sl, if_neg (by omega)]
  | map id =>
    have h' : id < n0 := by simpa [stL] using h
    rw [fzT_map, if_neg (by omega)]
  | _ => rfl
def PlK (n0 : Nat) (T : Tmps) : List (Nat × Kd) → Prop
  | [] => True
  | e :: K => (e.2 = .p ∧ ∃ l, tget T e.1 = .one l ∧ stL n0 l = true) ∧ PlK n0 T K
theorem plK_kdL {H : Heap} {n0 : Nat} {T : Tmps} : ∀ {K : List (Nat × Kd)}, PlK n0 T K → kdL H n0 T K = []
  | [], _ => rfl
  | e :: K, h => by rw [kdL, h.1.1, plK_kdL h.2]; rfl
theorem plK_kdAll {H : Heap} {n0 : Nat} {L : List (Option Nat)} {T : Tmps} : ∀ {K : List (Nat × Kd)} (p : Nat), PlK n0 T K → kdAll H n0 L T p K = some (K.map fun e => (e.1, tget T e.1), [])
  | [], p, _ => rfl
  | e :: K, p, h => by
    obtain ⟨⟨h1, l, h2, h3⟩, h4⟩ := h
    have h5 : fzV H n0 L (.one l) = some (.one l) := by show (fzT _ _ _ l).map V.one = _; rw [stL_fz h3]; rfl
    unfold kdAll
    rw [h1]
    simp only [kdNew, h2, h5, List.length_nil, Nat.add_zero, plK_kdAll p h4]
    simp [h2]
def WsOK (H : Heap) (ws : List Nat) : Prop := ∀ id, id ∈ ws → id < H.length → ∃ z es, H[id]? = some (some (.row z es)) ∧ es.all (fun cs => cs.all (stL H.length)) = true
theorem fzH_call {H g : Heap} : ∀ (ws : List Nat), (∀ id, id ∈ ws → id < H.length) → WsOK H ws → fzH (H ++ g) H.length [] ws H = some H
  | [], _, _ => rfl
  | id :: ws, hl, hw => by
    have hid := hl id (by simp)
    obtain ⟨z, es, h1, h2⟩ := hw id (by simp) hid
    have h3 : (H ++ g)[id]? = some (some (.row z es)) := by rw [List.getElem?_append_left hid, h1]
    have h4 : mapO (mapO (fzT (H ++ g) H.length [])) es = some es := mapO_id fun cs hcs => mapO_id fun l hl => stL_fz (List.all_eq_true.1 (List.all_eq_true.1 h2 cs hcs) l hl)
    unfold fzH
    simp only [h3, fzO, h4, Option.map_some]
    have h5 : H.set id (some (.row z es)) = H := by
      apply List.ext_getElem?
      intro i
      rw [List.getElem?_set]
      split
      · rename_i hi; subst hi; rw [h1]
      · rfl
    rw [h5]
    exact fzH_call ws (fun x hx => hl x (by simp [hx])) fun x hx => hw x (by simp [hx])
theorem wsOf_mem {n0 : Nat} {ws : List Nat} {x : Nat} (h : x ∈ wsOf n0 ws) : x ∈ ws ∧ x < n0 := (mem_ws _ _ _).1 h
theorem tidy_call {H g : Heap} {n0 : Nat} {T : Tmps} {ws : List Nat} {K : List (Nat × Kd)} (hn : H.length = n0) (hK : PlK n0 T K) (hw : WsOK H ws) : tidy n0 K ⟨T, H ++ g, ws⟩ = ⟨K.map fun e => (e.1, tget T e.1), H, wsOf n0 ws⟩ := by
  subst hn
  have h1 := fzH_call (g := g) (wsOf H.length ws) (fun x hx => (wsOf_mem hx).2) fun x hx => hw x (wsOf_mem hx).1
  unfold tidy tidyO
  simp only [plK_kdL hK, plK_kdAll 0 hK, okL, if_true, List.take_left', h1, List.append_nil]
theorem tidy_call' {H : Heap} {n0 : Nat} {T : Tmps} {ws : List Nat} {K : List (Nat × Kd)} (hn : H.length = n0) (hK : PlK n0 T K) (hw : WsOK H ws) : tidy n0 K ⟨T, H, ws⟩ = ⟨K.map fun e => (e.1, tget T e.1), H, wsOf n0 ws⟩ := by
  have := tidy_call (g := []) hn hK hw
  simpa using this
theorem wrap_call {H g : Heap} {n0 : Nat} {ws : List Nat} (hn : H.length = n0) (hw : WsOK H ws) : wrapUp 0 n0 (.tup []) (H ++ g) ws = (.tup [], H, wsOf n0 ws) := by
  subst hn
  have h1 := fzH_call (g := g) (wsOf H.length ws) (fun x hx => (wsOf_mem hx).2) fun x hx => hw x (wsOf_mem hx).1
  unfold wrapUp wrapC wrapL
  simp [okL, fzV, mapO, List.take_left', h1, normV]
end Go.Proofs.Ytdkknhpdjcdmfaa.Abs

/- A walk through blocks: the heap on which it works. -/
set_option linter.unusedSimpArgs false
set_option linter.unusedVariables false
namespace Go.Proofs.Ytdkknhpdjcdmfaa.Abs
open Go Go.RowKit Go.Proofs

def updW (h : Heap) (k im ip : Nat) (ss : List (List Int)) (met : List Bool) (l : Nat) (post : List Int) : Heap :=
  ((h.set k (some (.row 3 [[.isl (listsOf ss), .sl im 1 ss.length 0 ss.length, .sl ip 1 l 0 l]]))).set im (some (.row 1 (boolsOf met)))).set ip (some (.row 1 (intsOf post)))
structure W3 (h : Heap) (k im ip : Nat) : Prop where
  hk : k < h.length
  hm : im < h.length
  hp : ip < h.length
  km : k ≠ im
  kp : k ≠ ip
  mp : im ≠ ip
section
variable {h t : Heap} {k im ip : Nat} {ss : List (List Int)} {met : List Bool} {l : Nat} {post : List Int}
@[simp] theorem updW_length : (updW h k im ip ss met l post).length = h.length := by simp [updW]
theorem updW_k (w : W3 h k im ip) : (updW h k im ip ss met l post)[k]? = some (some (.row 3 [[.isl (listsOf ss), .sl im 1 ss.length 0 ss.length, .sl ip 1 l 0 l]])) := by
  have h1 := w.km
  have h2 := w.kp
  have h3 := w.hk
  unfold updW
  rw [List.getElem?_set_ne (fun e => h2 e.symm), List.getElem?_set_ne (fun e => h1 e.symm)]
  simp [h3]
theorem updW_m (w : W3 h k im ip) : (updW h k im ip ss met l post)[im]? = some (some (.row 1 (boolsOf met))) := by
  have h1 := w.mp
  have h3 := w.hm
  unfold updW
  rw [List.getElem?_set_ne (fun e => h1 e.symm)]
  simp [h3]
theorem updW_p (w : W3 h k im ip) : (updW h k im ip ss met l post)[ip]? = some (some (.row 1 (intsOf post))) := by
  have h3 := w.hp
  unfold updW
  simp [h3]
theorem app_lt {i : Nat} (hi : i < h.length) : (updW h k im ip ss met l post ++ t)[i]? = (updW h k im ip ss met l post)[i]? := List.getElem?_append_left (by simpa using hi)
theorem rowW_k (w : W3 h k im ip) (sz : Nat) : rowAt (updW h k im ip ss met l post) k sz = if 1 = sz then some (3, [[.isl (listsOf ss), .sl im 1 ss.length 0 ss.length, .sl ip 1 l 0 l]]) else none := by
  simp [rowAt, updW_k w]
theorem rowW_m (w : W3 h k im ip) (sz : Nat) : rowAt (updW h k im ip ss met l post) im sz = if met.length = sz then some (1, boolsOf met) else none := by
  simp [rowAt, updW_m w]
theorem rowW_p (w : W3 h k im ip) (sz : Nat) : rowAt (updW h k im ip ss met l post) ip sz = if post.length = sz then some (1, intsOf post) else none := by
  simp [rowAt, updW_p w]
theorem rowW_k' (w : W3 h k im ip) (sz : Nat) : rowAt (updW h k im ip ss met l post ++ t) k sz = if 1 = sz then some (3, [[.isl (listsOf ss), .sl im 1 ss.length 0 ss.length, .sl ip 1 l 0 l]]) else none := by
  simp only [rowAt, app_lt w.hk, updW_k w]; rfl
theorem rowW_m' (w : W3 h k im ip) (sz : Nat) : rowAt (updW h k im ip ss met l post ++ t) im sz = if met.length = sz then some (1, boolsOf met) else none := by
  simp [rowAt, app_lt w.hm, updW_m w]
theorem rowW_p' (w : W3 h k im ip) (sz : Nat) : rowAt (updW h k im ip ss met l post ++ t) ip sz = if post.length = sz then some (1, intsOf post) else none := by
  simp [rowAt, app_lt w.hp, updW_p w]
@[simp] theorem rowW_at0 (sz : Nat) : rowAt (updW h k im ip ss met l post ++ t) h.length sz = rowAt t 0 sz := by
  have := row_at0 (h := updW h k im ip ss met l post) (t := t) sz; rwa [updW_length] at this
theorem set_comm3 {α : Type} (xs : List α) {i j : Nat} (hn : i ≠ j) (a b : α) : (xs.set i a).set j b = (xs.set j b).set i a := List.set_comm _ _ hn
theorem setW_m (w : W3 h k im ip) (met' : List Bool) : (updW h k im ip ss met l post).set im (some (.row 1 (boolsOf met'))) = updW h k im ip ss met' l post := by
  unfold updW
  rw [set_comm3 _ (fun e => w.mp e.symm), List.set_set]
theorem setW_p (w : W3 h k im ip) (post' : List Int) : (updW h k im ip ss met l post).set ip (some (.row 1 (intsOf post'))) = updW h k im ip ss met l post' := by
  unfold updW
  rw [List.set_set]
theorem setW_k (w : W3 h k im ip) (l' : Nat) : (updW h k im ip ss met l post).set k (some (.row 3 [[.isl (listsOf ss), .sl im 1 ss.length 0 ss.length, .sl ip 1 l' 0 l']])) = updW h k im ip ss met l' post := by
  unfold updW
  rw [set_comm3 _ (fun e => w.kp e.symm), set_comm3 _ (fun e => w.km e.symm), List.set_set]
theorem setW_m' (w : W3 h k im ip) (met' : List Bool) : (updW h k im ip ss met l post ++ t).set im (some (.row 1 (boolsOf met'))) = updW h k im ip ss met' l post ++ t := by
  rw [List.set_append_left _ _ (by simpa using w.hm), setW_m w]
theorem setW_p' (w : W3 h k im ip) (post' : List Int) : (updW h k im ip ss met l post ++ t).set ip (some (.row 1 (intsOf post'))) = updW h k im ip ss met l post' ++ t := by
  rw [List.set_append_left _ _ (by simpa using w.hp), setW_p w]
theorem setW_k' (w : W3 h k im ip) (l' : Nat) : (updW h k im ip ss met l post ++ t).set k (some (.row 3 [[.isl (listsOf ss), .sl im 1 ss.length 0 ss.length, .sl ip 1 l' 0 l']])) = updW h k im ip ss met l' post ++ t := by
  rw [List.set_append_left _ _ (by simpa using w.hk), setW_k w]
def Ks3 (n0 k im ip : Nat) (ws : List Nat) : Prop := ∀ x, x ∈ ws → x < n0 → x = k ∨ x = im ∨ x = ip
theorem wsW (w : W3 h k im ip) {ws : List Nat} (hk : Ks3 h.length k im ip ws) : WsOK (updW h k im ip ss met l post) ws := by
  intro id hid hlt
  rw [updW_length] at hlt
  have h1 := w.hm
  have h2 := w.hp
  rcases hk id hid hlt with rfl | rfl | rfl
  · exact ⟨_, _, updW_k w, by simp [h1, h2]⟩
  · exact ⟨_, _, updW_m w, by simp [boolsOf]⟩
  · exact ⟨_, _, updW_p w, by simp [intsOf]⟩
end

def visitF (ss : List (List Int)) : Nat → Nat → List Bool × List Int → List Bool × List Int
  | 0, _, s => s
  | m + 1, v, s =>
    let r := (ss.getD v []).foldl (fun s b => if s.1.getD b.toNat false then s else visitF ss m b.toNat s) (s.1.set v true, s.2)
    (r.1, r.2 ++ [(v : Int)])
def unmet (met : List Bool) : Nat := met.count false
structure VInv (ss : List (List Int)) (s r : List Bool × List Int) : Prop where
  len : r.1.length = s.1.length
  un : unmet r.1 ≤ unmet s.1
  post : unmet r.1 + r.2.length ≤ unmet s.1 + s.2.length
theorem VInv.refl (ss : List (List Int)) (s : List Bool × List Int) : VInv ss s s := ⟨rfl, Nat.le_refl _, Nat.le_refl _⟩
theorem VInv.trans {ss : List (List Int)} {a b c : List Bool × List Int} (h : VInv ss a b) (g : VInv ss b c) : VInv ss a c :=
  ⟨g.len.trans h.len, Nat.le_trans g.un h.un, Nat.le_trans g.post h.post⟩
theorem unmet_set {met : List Bool} {v : Nat} (h : met[v]? = some false) : unmet (met.set v true) + 1 = unmet met := by
  unfold unmet
  induction met generalizing v with
  | nil => simp at h
  | cons b bs ih =>
    cases v with
    | zero => simp at h; subst h; simp
    | succ v =>
      simp at h
      have := ih h
      simp only [List.set_cons_succ, List.count_cons]
      omega
theorem visitF_inv (ss : List (List Int)) (hs : Edges ss) : ∀ (m v : Nat) (s : List Bool × List Int), s.1.length = ss.length → s.1[v]? = some false → VInv ss s (visitF ss m v s)
  | 0, v, s, _, _ => .refl ss s
  | m + 1, v, s, hl, hv => by
    have fold : ∀ (bs : List Int) (s : List Bool × List Int), s.1.length = ss.length → (∀ b, b ∈ bs → 0 ≤ b ∧ b < ss.length) → VInv ss s (bs.foldl (fun s b => if s.1.getD b.toNat false then s else visitF ss m b.toNat s) s) := by
      intro bs
      induction bs with
      | nil => intro s _ _; exact .refl ss s
      | cons b bs ih =>
        intro s hl hb
        rw [List.foldl_cons]
        have h0 := hb b (by simp)
        have h1 : VInv ss s (if s.1.getD b.toNat false then s else visitF ss m b.toNat s) := by
          split
          · exact .refl ss s
          · rename_i hn
            refine visitF_inv ss hs m b.toNat s hl ?_
            have hlt : b.toNat < s.1.length := by omega
            rw [List.getElem?_eq_getElem hlt]
            rw [List.getD, List.getElem?_eq_getElem hlt] at hn
            simpa using hn
        exact h1.trans (ih _ (h1.len.trans hl) fun x hx => hb x (by simp [hx]))
    have hb : ∀ b, b ∈ ss.getD v [] → 0 ≤ b ∧ b < ss.length := by
      intro b hb
      rw [List.getD] at hb
      cases he : ss[v]? with
      | none => rw [he] at hb; simp at hb
      | some l => rw [he] at hb; exact (hs.each l (List.mem_of_getElem? he)).2 b hb
    have h1 := fold (ss.getD v []) (s.1.set v true, s.2) (by simpa using hl) hb
    have h2 := unmet_set hv
    have h3 := h1.len
    have h4 := h1.un
    have h5 := h1.post
    simp only [List.length_set] at h3
    simp only at h4 h5
    refine ⟨?_, ?_, ?_⟩
    · simp only [visitF]; exact h3
    · simp only [visitF]; omega
    · simp only [visitF, List.length_append, List.length_cons, List.length_nil]; omega
end Go.Proofs.Ytdkknhpdjcdmfaa.Abs

/- A walk through blocks. -/
set_option linter.unusedSimpArgs false
set_option linter.unusedVariables false
namespace Go.Proofs.Ytdkknhpdjcdmfaa.Abs
open Go Go.RowKit Go.Proofs

def viS (h : Heap) (k im ip : Nat) (ss : List (List Int)) (v : Nat) (xs : List Int) (i : Nat) (met : List Bool) (post : List Int) (ws : List Nat) : St :=
  ⟨[(0, .one (.ptr k 1 0 0)), (1, I (v : Nat)), (20, I (i : Nat)), (19, I (xs.length : Nat)), (18, Sl (intsOf xs))], updW h k im ip ss met post.length post, ws⟩
theorem ks3_wsOf {n0 k im ip : Nat} {ws : List Nat} (h : Ks3 n0 k im ip ws) : Ks3 n0 k im ip (wsOf n0 ws) := fun x hx hl => h x (wsOf_mem hx).1 hl
theorem ks3_app {n0 k im ip : Nat} {ws ws' : List Nat} (h : Ks3 n0 k im ip ws) (g : Ks3 n0 k im ip ws') : Ks3 n0 k im ip (ws ++ ws') := fun x hx hl => by
  rcases List.mem_append.1 hx with hx | hx
  · exact h x hx hl
  · exact g x hx hl
theorem plK_nil (n0 : Nat) (T : Tmps) : PlK n0 T [] = True := rfl
theorem plK_cons (n0 : Nat) (T : Tmps) (i : Nat) (k : Kd) (K : List (Nat × Kd)) : PlK n0 T ((i, k) :: K) = ((k = .p ∧ ∃ l, tget T i = .one l ∧ stL n0 l = true) ∧ PlK n0 T K) := rfl

def VisitOK (m : Nat) : Prop := ∀ (h : Heap) (k im ip : Nat) (w : W3 h k im ip) (ss : List (List Int)) (hs : Edges ss) (met : List Bool) (post : List Int) (v : Nat), met.length = ss.length → met[v]? = some false → unmet met ≤ m → unmet met + post.length ≤ 100000 →
  ∃ ws, CX 99 [.one (.ptr k 1 0 0), I (v : Nat)] (updW h k im ip ss met post.length post) = some (.tup [], updW h k im ip ss (visitF ss m v (met, post)).1 (visitF ss m v (met, post)).2.length (visitF ss m v (met, post)).2, ws) ∧ ∀ x, x ∈ ws → x = k ∨ x = im ∨ x = ip

theorem vi_loop (m : Nat) (ih : VisitOK m) (h : Heap) (k im ip : Nat) (w : W3 h k im ip) (ss : List (List Int)) (hs : Edges ss) (v : Nat) (xs : List Int) (hx : xs.length ≤ 1000) (hb : ∀ b, b ∈ xs → 0 ≤ b ∧ b < ss.length) (met : List Bool) (post : List Int) (hl : met.length = ss.length) (hu : unmet met ≤ m) (hp : unmet met + post.length ≤ 100000) (ws : List Nat) (hk : Ks3 h.length k im ip ws) :
    ∃ ws', lpK 99 Try.f99 46 0 h (viS h k im ip ss v xs 0 met post ws) = some (.exit 0, viS h k im ip ss v xs xs.length (xs.foldl (fun s b => if s.1.getD b.toNat false then s else visitF ss m b.toNat s) (met, post)).1 (xs.foldl (fun s b => if s.1.getD b.toNat false then s else visitF ss m b.toNat s) (met, post)).2 ws') ∧ Ks3 h.length k im ip ws' := by
  have w1 := w.hk
  have w2 := w.hm
  have w3 := w.hp
  have key := loop_rel (P := Try.prog) (C := cfg) (sc := runScope Try.prog cfg 46 h.length (cfg.live 99) 0) (N := 46) (n0 := h.length) (K := cfg.live 99) (c := loopAt Try.f99 0)
    (fun s : Nat × (List Bool × List Int) × List Nat => viS h k im ip ss v xs s.1 s.2.1.1 s.2.1.2 s.2.2)
    (fun s => s.1 ≤ xs.length ∧ s.2.1.1.length = ss.length ∧ unmet s.2.1.1 ≤ m ∧ unmet s.2.1.1 + s.2.1.2.length ≤ 100000 ∧ Ks3 h.length k im ip s.2.2) (fun s => xs.length - s.1)
    (fun s q => ∃ ws', q = (.exit 0, viS h k im ip ss v xs xs.length ((xs.drop s.1).foldl (fun s b => if s.1.getD b.toNat false then s else visitF ss m b.toNat s) s.2.1).1 ((xs.drop s.1).foldl (fun s b => if s.1.getD b.toNat false then s else visitF ss m b.toNat s) s.2.1).2 ws') ∧ Ks3 h.length k im ip ws') ?_ (0, (met, post), ws) ⟨Nat.zero_le _, hl, hu, hp, hk⟩
  · obtain ⟨q, h1, ws', rfl, h2⟩ := key
    exact ⟨ws', h1, h2⟩
  rintro ⟨i, ⟨met, post⟩, ws⟩ ⟨j1, j2, j3, j4, j5⟩
  simp only at j1 j2 j3 j4 j5 ⊢
  rcases Nat.lt_or_ge i xs.length with hi | hi
  · obtain ⟨b, hd⟩ : ∃ b, xs[i]? = some b := ⟨_, List.getElem?_eq_getElem hi⟩
    have hdr : xs.drop i = b :: xs.drop (i + 1) := by
      rw [List.drop_eq_getElem_cons hi]; rw [List.getElem?_eq_getElem hi] at hd; cases hd; rfl
    rw [hdr, List.foldl_cons]
    have hiI : ((i : Nat) : Int) < ((xs.length : Nat) : Int) := by omega
    have hb0 := hb b (List.mem_of_getElem? hd)
    have hb1 := hb0.1
    have hbn : b.toNat < ss.length := by omega
    have hbn2 : b.toNat < met.length := by omega
    obtain ⟨t, ht⟩ : ∃ t, met[b.toNat]? = some t := ⟨_, List.getElem?_eq_getElem hbn2⟩
    have hg : met.getD b.toNat false = t := by rw [List.getD, ht]; rfl
    cases t with
    | true =>
      refine .inl ⟨(i + 1, (met, post), wsOf h.length ws), ?_, ⟨hi, j2, j3, j4, ks3_wsOf j5⟩, by simp only; omega, ?_⟩
      · simp (disch := (first | omega | simp (disch := omega) [j2])) [round_eq, viS, Try.f99, lv99, hd, hi, hiI, hb1, hbn, hbn2, ht, wrap_i64, rowW_k w, rowW_m w, rowW_p w, j2, -getElem?_pos, -tidy_eq]
        refine (tidy_call' (by simp) ?_ (wsW w j5)).trans ?_ <;> simp (disch := omega) [plK_cons, plK_nil, w1]
      · simp only [hg, if_true]
        exact fun r hr => hr
    | false =>
      obtain ⟨ws', e, hk''⟩ := ih h k im ip w ss hs met post b.toNat j2 ht j3 j4
      have hk' : Ks3 h.length k im ip ws' := fun x hx _ => hk'' x hx
      have hinv := visitF_inv ss hs m b.toNat (met, post) j2 ht
      rw [show ((b.toNat : Nat) : Int) = b by omega] at e
      refine .inl ⟨(i + 1, visitF ss m b.toNat (met, post), wsOf h.length (ws ++ ws')), ?_, ⟨hi, hinv.len.trans j2, Nat.le_trans hinv.un j3, Nat.le_trans hinv.post j4, ks3_wsOf (ks3_app j5 hk')⟩, by simp only; omega, ?_⟩
      · simp (disch := (first | omega | simp (disch := omega) [j2])) [round_eq, viS, Try.f99, lv99, hd, hi, hiI, hb1, hbn, hbn2, ht, wrap_i64, rowW_k w, rowW_m w, rowW_p w, j2, e, -getElem?_pos, -tidy_eq]
        refine (tidy_call' (by simp) ?_ (wsW w (ks3_app j5 hk'))).trans ?_ <;> simp (disch := omega) [plK_cons, plK_nil, w1]
      · simp only [hg, Bool.false_eq_true, if_false]
        exact fun r hr => hr
  · have : i = xs.length := by omega
    subst this
    refine .inr ⟨_, ?_, ?_, wsOf h.length ws, rfl, ks3_wsOf j5⟩
    · simp (disch := (first | omega | simp (disch := omega) [j2])) [round_eq, viS, Try.f99, lv99, rowW_k w, rowW_m w, rowW_p w, j2, -getElem?_pos, -tidy_eq]
      refine (tidy_call' (by simp) ?_ (wsW w j5)).trans ?_ <;> simp (disch := omega) [plK_cons, plK_nil, w1]
    · nofun
end Go.Proofs.Ytdkknhpdjcdmfaa.Abs

/- A walk through blocks: all of it. -/
set_option linter.unusedSimpArgs false
set_option linter.unusedVariables false
namespace Go.Proofs.Ytdkknhpdjcdmfaa.Abs
open Go Go.RowKit Go.Proofs

theorem visitOK : ∀ m, VisitOK m
  | 0 => by
    intro h k im ip w ss hs met post v hl hv hu hp
    have := unmet_set hv
    omega
  | m + 1 => by
    intro h k im ip w ss hs met post v hl hv hu hp
    have ih := visitOK m
    have w1 := w.hk
    have w2 := w.hm
    have w3 := w.hp
    have hu2 := unmet_set hv
    have hvl : v < met.length := (List.getElem?_eq_some_iff.1 hv).1
    have hvs : v < ss.length := by omega
    obtain ⟨xs, hx⟩ : ∃ xs, ss[v]? = some xs := ⟨_, List.getElem?_eq_getElem hvs⟩
    have hxe := hs.each xs (List.mem_of_getElem? hx)
    have hk0 : Ks3 h.length k im ip [im] := fun x hx _ => by simp at hx; exact .inr (.inl hx)
    obtain ⟨ws', e, hk'⟩ := vi_loop m ih h k im ip w ss hs v xs hxe.1 hxe.2 (met.set v true) post (by simpa using hl) (by omega) (by omega) (wsOf h.length [im]) (ks3_wsOf hk0)
    have hr : visitF ss (m + 1) v (met, post) = ((xs.foldl (fun s b => if s.1.getD b.toNat false then s else visitF ss m b.toNat s) (met.set v true, post)).1, (xs.foldl (fun s b => if s.1.getD b.toNat false then s else visitF ss m b.toNat s) (met.set v true, post)).2 ++ [(v : Int)]) := by
      simp only [visitF]
      rw [show ss.getD v [] = xs by rw [List.getD, hx]; rfl]
    have hinv := visitF_inv ss hs (m + 1) v (met, post) hl hv
    rw [hr] at hinv ⊢
    generalize xs.foldl (fun s b => if s.1.getD b.toNat false then s else visitF ss m b.toNat s) (met.set v true, post) = r at e hinv ⊢
    obtain ⟨met', post'⟩ := r
    have hpl := hinv.post
    have hml := hinv.len
    simp only [List.length_append, List.length_cons, List.length_nil] at hpl hml
    simp (disch := omega) [viS, lpK, lv99, Try.f99] at e
    have hkf : Ks3 h.length k im ip (ws' ++ [ip, k]) := ks3_app hk' fun x hx _ => by
      simp at hx
      rcases hx with rfl | rfl
      · exact .inr (.inr rfl)
      · exact .inl rfl
    refine ⟨wsOf h.length (ws' ++ [ip, k]), CI_of Try.func99 rfl 0 ?_, fun x hx => hkf x (wsOf_mem hx).1 (wsOf_mem hx).2⟩
    have hkp : cfg.keep 99 = 0 := rfl
    simp (disch := (first | omega | simp (disch := omega) [hl])) [Try.f99, lv99, hvl, hvs, hv, hx, rowW_k w, rowW_m w, rowW_p w, setW_m w, boolsOf_set, hl, wrap_i64, -getElem?_pos, -tidy_eq, -wrapUp_zero]
    rw [tidy_call' (by simp) ?_ (wsW w hk0)]
    · simp (disch := (first | omega | simp (disch := omega) [hl])) [e, hkp, hl, rowW_k w, rowW_m w, rowW_p w, rowW_p' w, rowW_k' w, setW_p' w, setW_k' w, intsOf_snoc, room_of, wrap_i64, -getElem?_pos, -tidy_eq, -wrapUp_zero]
      exact wrap_call (by simp) (wsW w hkf)
    · simp (disch := omega) [plK_cons, plK_nil, w1]
end Go.Proofs.Ytdkknhpdjcdmfaa.Abs
