/- YtdkknhpdjcdmfaaJD44: texts that follow each other, as one. -/
import Derived.Test.YtdkknhpdjcdmfaaJD42
import Derived.Test.YtdkknhpdjcdmfaaJD43
import Derived.Test.YtdkknhpdjcdmfaaJD0
/- Numbers, turned round in place. -/
set_option linter.unusedSimpArgs false
set_option linter.unusedVariables false
namespace Go.Proofs.Ytdkknhpdjcdmfaa.Abs
open Go Go.RowKit Go.Proofs

theorem intsOf_set (xs : List Int) (i : Nat) (n : Int) : (intsOf xs).set i [.int .i64 n] = intsOf (xs.set i n) := by simp [intsOf, List.map_set]

theorem ints_st (n0 : Nat) (xs : List Int) : (intsOf xs).all (fun cs => cs.all (stL n0)) = true := by
  unfold intsOf; rw [List.all_map]; exact List.all_eq_true.2 fun x _ => rfl

def rvS (h : Heap) (k n : Nat) (ys : List Int) (i : Nat) (j : Int) (ws : List Nat) : St :=
  ⟨[(0, .one (.sl k 1 n 0 n)), (2, I (i : Nat)), (3, I j)], updH h k 1 (intsOf ys), ws⟩
def Turned (xs ys : List Int) (i : Nat) : Prop := ys.length = xs.length ∧ ∀ t, t < xs.length → ys[t]? = if t < i ∨ xs.length - i ≤ t then xs[xs.length - 1 - t]? else xs[t]?
theorem turned_all {xs ys : List Int} {i : Nat} (h : Turned xs ys i) (hi : xs.length ≤ 2 * i + 1) : ys = xs.reverse := by
  apply List.ext_getElem?
  intro t
  rcases Nat.lt_or_ge t xs.length with ht | ht
  · rw [h.2 t ht, List.getElem?_reverse ht]
    split
    · rfl
    · rename_i hn
      rw [show xs.length - 1 - t = t by omega]
  · rw [List.getElem?_eq_none (by rw [h.1]; omega), List.getElem?_eq_none (by simpa using ht)]
theorem turned_step {xs ys : List Int} {i : Nat} (h : Turned xs ys i) (hi : 2 * i + 1 < xs.length) {a b : Int} (ha : ys[i]? = some a) (hb : ys[xs.length - 1 - i]? = some b) : Turned xs ((ys.set i b).set (xs.length - 1 - i) a) (i + 1) := by
  refine ⟨by simp [h.1], fun t ht => ?_⟩
  have h1 := h.2 i (by omega)
  have h2 := h.2 (xs.length - 1 - i) (by omega)
  rw [if_neg (by omega)] at h1 h2
  rw [List.getElem?_set, List.getElem?_set]
  by_cases e1 : xs.length - 1 - i = t
  · rw [if_pos e1, if_pos (by rw [List.length_set, h.1]; omega), if_pos (by omega), ← ha, h1]
    rw [show xs.length - 1 - t = i by omega]
  · rw [if_neg e1]
    by_cases e2 : i = t
    · subst e2
      rw [if_pos rfl, if_pos (by rw [h.1]; omega), if_pos (by omega), ← hb, h2]
    · rw [if_neg e2, h.2 t ht]
      by_cases e3 : t < i ∨ xs.length - i ≤ t
      · rw [if_pos e3, if_pos (by omega)]
      · rw [if_neg e3, if_neg (by omega)]

theorem rv_loop (h : Heap) (k : Nat) (hk : k < h.length) (xs : List Int) (hx : Fit xs) :
    ∃ i j ws, lpK 100 Try.f100 28 0 h (rvS h k xs.length xs 0 ((xs.length : Int) - 1) []) = some (.exit 0, rvS h k xs.length xs.reverse i j ws) ∧ ∀ x, x ∈ ws → x = k := by
  have d := dt100
  simp [Try.f100, infoFn, infoRegs, List.lookup] at d
  have hk' : ¬ h.length ≤ k := by omega
  have key := loop_rel (P := Try.prog) (C := cfg) (sc := runScope Try.prog cfg 28 h.length (cfg.live 100) 0) (N := 28) (n0 := h.length) (K := cfg.live 100) (c := loopAt Try.f100 0)
    (fun s : Nat × List Int × List Nat => rvS h k xs.length s.2.1 s.1 ((xs.length : Int) - 1 - s.1) s.2.2)
    (fun s => Turned xs s.2.1 s.1 ∧ 2 * s.1 ≤ xs.length + 1 ∧ ∀ x, x ∈ s.2.2 → x = k) (fun s => xs.length + 1 - s.1)
    (fun s q => ∃ i j ws, q = (.exit 0, rvS h k xs.length xs.reverse i j ws) ∧ ∀ x, x ∈ ws → x = k) ?_ (0, xs, []) ⟨⟨rfl, fun t ht => by rw [if_neg (by omega)]⟩, by simp only; omega, by simp⟩
  · obtain ⟨q, h1, i, j, ws, rfl, h2⟩ := key
    refine ⟨i, j, ws, ?_, h2⟩
    simp only [show ((xs.length : Int) - 1 - ((0 : Nat) : Int)) = (xs.length : Int) - 1 by omega] at h1
    exact h1
  rintro ⟨i, ys, ws⟩ ⟨j1, j2, j3⟩
  simp only at j1 j2 j3 ⊢
  have hwk : WsOK (updH h k 1 (intsOf ys)) ws := by
    intro id hid hlt
    rw [j3 id hid]
    exact ⟨1, intsOf ys, upd_get hk, ints_st _ _⟩
  by_cases hi : 2 * i + 1 < xs.length
  · have hl := j1.1
    obtain ⟨a, ha⟩ : ∃ a, ys[i]? = some a := ⟨_, List.getElem?_eq_getElem (by omega)⟩
    obtain ⟨b, hb⟩ : ∃ b, ys[xs.length - 1 - i]? = some b := ⟨_, List.getElem?_eq_getElem (by omega)⟩
    have hc : (xs.length : Int) - 1 - i = ((xs.length - 1 - i : Nat) : Int) := by omega
    have hlt : ((i : Nat) : Int) < ((xs.length - 1 - i : Nat) : Int) := by omega
    have hlt2 : xs.length - 1 - i < xs.length := by omega
    have hlt3 : i < xs.length := by omega
    have hwk2 : ∀ x, x ∈ ws ++ [k, k] → x = k := fun x hx => by
      rcases List.mem_append.1 hx with hx | hx
      · exact j3 x hx
      · simpa using hx
    have hc2 : ((xs.length - 1 - i : Nat) : Int) - 1 = (xs.length : Int) - 1 - ((i : Int) + 1) := by omega
    refine .inl ⟨(i + 1, (ys.set i b).set (xs.length - 1 - i) a, wsOf h.length (ws ++ [k, k])), ?_, ⟨turned_step j1 hi ha hb, by simp only; omega, fun x hx => hwk2 x (wsOf_mem hx).1⟩, by simp only; omega, fun q hq => hq⟩
    simp only [hc]
    simp (disch := (first | omega | simp (disch := omega) [hk, hl])) [round_eq, rvS, Try.f100, lv100, hlt, hlt2, hlt3, ha, hb, hk, hl, hc2, wrap_i64, d, unOK, apartR, disjoint, cellsApart, intsOf_set, -getElem?_pos, -tidy_eq]
    refine (tidy_call' (by simp) ?_ ?_).trans ?_
    · simp (disch := omega) [plK_cons, plK_nil, hk]
    · intro id hid hlt
      rw [hwk2 id hid]
      exact ⟨1, _, upd_get hk, ints_st _ _⟩
    · simp
  · refine .inr ⟨(.exit 0, rvS h k xs.length ys i ((xs.length : Int) - 1 - i) (wsOf h.length ws)), ?_, nofun, i, ((xs.length : Int) - 1 - i), wsOf h.length ws, ?_, fun x hx => j3 x (wsOf_mem hx).1⟩
    · have hn : ¬ ((i : Nat) : Int) < (xs.length : Int) - 1 - i := by omega
      simp (disch := (first | omega | simp (disch := omega) [hk])) [round_eq, rvS, Try.f100, lv100, hn, -getElem?_pos, -tidy_eq]
      refine (tidy_call' (by simp) ?_ hwk).trans ?_ <;> simp (disch := omega) [plK_cons, plK_nil, hk]
    · rw [turned_all j1 (by omega)]

theorem rev_upd (h : Heap) (k : Nat) (hk : k < h.length) (xs : List Int) (hx : Fit xs) :
    ∃ ws, CX 100 [.one (.sl k 1 xs.length 0 xs.length)] (updH h k 1 (intsOf xs)) = some (.tup [], updH h k 1 (intsOf xs.reverse), ws) ∧ ∀ x, x ∈ ws → x = k := by
  obtain ⟨i, j, ws, e, hw⟩ := rv_loop h k hk xs hx
  have hwk : WsOK (updH h k 1 (intsOf xs.reverse)) ws := by
    intro id hid hlt
    rw [hw id hid]
    exact ⟨1, _, upd_get hk, ints_st _ _⟩
  have hw0 : WsOK (updH h k 1 (intsOf xs)) [] := fun id hid => by simp at hid
  refine ⟨wsOf h.length ws, CI_of Try.func100 rfl 0 ?_, fun x hx => hw x (wsOf_mem hx).1⟩
  have hkp : cfg.keep 100 = 0 := rfl
  simp [rvS, lpK, lv100, Try.f100] at e
  simp (disch := (first | omega | simp (disch := omega) [hk])) [Try.f100, lv100, hk, wrap_i64, -getElem?_pos, -tidy_eq, -wrapUp_zero]
  rw [tidy_call' (by simp) ?_ hw0]
  · simp (disch := (first | omega | simp (disch := omega) [hk])) [e, hkp, -tidy_eq, -wrapUp_zero]
    have := wrap_call (g := []) (H := updH h k 1 (intsOf xs.reverse)) (n0 := h.length) (by simp) hwk
    simpa using this
  · simp (disch := omega) [plK_cons, plK_nil, hk]
end Go.Proofs.Ytdkknhpdjcdmfaa.Abs

/- The blocks that are reached, in order. -/
set_option linter.unusedSimpArgs false
set_option linter.unusedVariables false
namespace Go.Proofs.Ytdkknhpdjcdmfaa.Abs
open Go Go.RowKit Go.Proofs

theorem kdIds_r {h : Heap} {n0 : Nat} (v : V) (i : Nat) : kdIds h n0 v (.r i) = [] := rfl
theorem kdNew_r {h : Heap} {n0 : Nat} {L : List (Option Nat)} (p : Nat) (v : V) (i : Nat) : kdNew h n0 L p v (.r i) = bothK (fzV h n0 L v) (some []) := by
  simp only [kdNew]; cases fzV h n0 L v <;> rfl
theorem updW_app (h : Heap) (a b c : Option AO) (ss : List (List Int)) (met : List Bool) (l : Nat) (post : List Int) :
    updW (h ++ [a, b, c]) h.length (h.length + 1) (h.length + 2) ss met l post = h ++ [some (.row 3 [[.isl (listsOf ss), .sl (h.length + 1) 1 ss.length 0 ss.length, .sl (h.length + 2) 1 l 0 l]]), some (.row 1 (boolsOf met)), some (.row 1 (intsOf post))] := by
  unfold updW
  rw [set_at0, set_at, set_at]
  rfl
theorem updH_app (h : Heap) (a b c : Option AO) (es : List (List Leaf)) : updH (h ++ [a, b, c]) (h.length + 2) 1 es = h ++ [a, b, some (.row 1 es)] := by
  unfold updH
  rw [set_at]
  rfl
theorem unmet_all (n : Nat) : unmet (List.replicate n false) = n := by simp [unmet]
def orderF (ss : List (List Int)) : List Int := (visitF ss ss.length 0 (List.replicate ss.length false, [])).2.reverse

theorem order (h : Heap) (f : Fn) (hf : f.Fine) (hn : 0 < f.blocks.length) : CX 73 [.agg (encFn f)] h = some (Sl (intsOf (orderF (f.blocks.map nextB))), h, []) := by
  have hb := hf.len
  have hsl : (f.blocks.map nextB).length = f.blocks.length := by simp
  have e1 := fun h => succs h f hf.ok hf.ended (by omega)
  simp [encFn] at e1
  have d := dt73
  simp [Try.f73, infoFn, infoRegs, List.lookup] at d
  have hv0 : (List.replicate (f.blocks.map nextB).length false)[0]? = some false := by
    rw [List.getElem?_replicate, if_pos (by omega)]
  have hinv := visitF_inv (f.blocks.map nextB) hf.edges (f.blocks.map nextB).length 0 (List.replicate (f.blocks.map nextB).length false, []) (by simp) hv0
  have hpl := hinv.post
  have hml := hinv.len
  simp only [unmet_all, List.length_nil, List.length_replicate] at hpl hml
  obtain ⟨ws1, e2, hw1⟩ := visitOK (f.blocks.map nextB).length (h ++ [some (.row 3 []), some (.row 1 []), some (.row 1 [])]) h.length (h.length + 1) (h.length + 2) ⟨by simp, by simp, by simp, by omega, by omega, by omega⟩ (f.blocks.map nextB) hf.edges
    (List.replicate (f.blocks.map nextB).length false) [] 0 (by simp) hv0 (by rw [unmet_all]; exact Nat.le_refl _) (by rw [unmet_all]; simp; omega)
  rw [updW_app, updW_app] at e2
  have ho : (visitF (f.blocks.map nextB) (f.blocks.map nextB).length 0 (List.replicate (f.blocks.map nextB).length false, [])).2.reverse = orderF (f.blocks.map nextB) := rfl
  generalize hr : visitF (f.blocks.map nextB) (f.blocks.map nextB).length 0 (List.replicate (f.blocks.map nextB).length false, []) = r at e2 hpl hml ho
  obtain ⟨met, post⟩ := r
  simp only at e2 hpl hml ho
  obtain ⟨ws2, e3, hw2⟩ := rev_upd (h ++ [some (.row 3 [[.isl (listsOf (f.blocks.map nextB)), .sl (h.length + 1) 1 (f.blocks.map nextB).length 0 (f.blocks.map nextB).length, .sl (h.length + 2) 1 post.length 0 post.length]]), some (.row 1 (boolsOf met)), some (.row 1 (intsOf post))]) (h.length + 2) (by simp) post (by show post.length ≤ _; omega)
  rw [updH_app, updH_app] at e3
  have hol : (orderF (f.blocks.map nextB)).length = post.length := by rw [← ho]; simp
  have hz : List.replicate f.blocks.length [Leaf.bool false] = boolsOf (List.replicate f.blocks.length false) := by simp [boolsOf]
  simp at e2 e3
  refine CI_of Try.func73 rfl 0 ?_
  have hk : cfg.keep 73 = 0 := rfl
  have hws1 : ∀ x, x ∈ ws1 → h.length ≤ x := fun x hx => by rcases hw1 x hx with rfl | rfl | rfl <;> omega
  have hws2 : ∀ x, x ∈ ws2 → h.length ≤ x := fun x hx => by rw [hw2 x hx]; omega
  have hws : wsOf h.length (ws1 ++ ws2) = [] := wsOf_own fun x hx => by
    rcases List.mem_append.1 hx with hx | hx
    · exact hws1 x hx
    · exact hws2 x hx
  simp (disch := (first | omega | simp (disch := omega) [])) [Try.f73, lv73, hk, encFn, e1, e2, e3, d, unOK, apartR, disjoint, cellsApart, kdIds_r, kdNew_r, hws, ho, hol, hz, Nat.add_assoc, -getElem?_pos]
end Go.Proofs.Ytdkknhpdjcdmfaa.Abs

/- At which place each block stands in the order. -/
set_option linter.unusedSimpArgs false
set_option linter.unusedVariables false
namespace Go.Proofs.Ytdkknhpdjcdmfaa.Abs
open Go Go.RowKit Go.Proofs

def plS (h : Heap) (f : Fn) (ys : List Int) (v13 v12 v23 v22 v21 : V) : St :=
  ⟨[(1, .one (.ptr h.length 1 0 0)), (3, .one (.sl (h.length + 1) 1 f.blocks.length 0 f.blocks.length)), (13, v13), (12, v12), (23, v23), (22, v22), (21, v21)], h ++ [some (.row 5 [encFn f]), some (.row 1 (intsOf ys))], []⟩
def negs (n i : Nat) : List Int := List.replicate i (-1) ++ List.replicate (n - i) 0
@[simp] theorem negs_length {n i : Nat} (h : i ≤ n) : (negs n i).length = n := by simp [negs]; omega
theorem negs_set {n i : Nat} (h : i < n) : (negs n i).set i (-1) = negs n (i + 1) := by
  unfold negs
  rw [List.set_append_right _ _ (by simp), List.length_replicate, Nat.sub_self]
  obtain ⟨m, hm⟩ : ∃ m, n - i = m + 1 := ⟨n - i - 1, by omega⟩
  rw [hm, List.replicate_succ, List.set_cons_zero, List.replicate_succ', List.append_assoc]
  rw [show n - (i + 1) = m by omega]
  rfl
theorem pl_fill (h : Heap) (f : Fn) (hn : f.blocks.length ≤ 1000) :
    lpK 74 Try.f74 34 0 h (plS h f (negs f.blocks.length 0) (I (0 : Nat)) (I (f.blocks.length : Nat)) .junk .junk .junk) = some (.exit 0, plS h f (List.replicate f.blocks.length (-1)) (I (f.blocks.length : Nat)) (I (f.blocks.length : Nat)) .junk .junk .junk) := by
  have key := loop_fun (P := Try.prog) (C := cfg) (sc := runScope Try.prog cfg 34 h.length (cfg.live 74) 0) (N := 34) (n0 := h.length) (K := cfg.live 74) (c := loopAt Try.f74 0)
    (fun i : Nat => plS h f (negs f.blocks.length i) (I (i : Nat)) (I (f.blocks.length : Nat)) .junk .junk .junk) (fun i => i ≤ f.blocks.length) (fun i => f.blocks.length - i)
    (fun _ => (.exit 0, plS h f (List.replicate f.blocks.length (-1)) (I (f.blocks.length : Nat)) (I (f.blocks.length : Nat)) .junk .junk .junk)) ?_ 0 (Nat.zero_le _)
  · exact key
  intro i hi
  have hl := negs_length hi
  rcases Nat.lt_or_ge i f.blocks.length with hlt | hge
  · have hltI : ((i : Nat) : Int) < ((f.blocks.length : Nat) : Int) := by omega
    obtain ⟨y, hy⟩ : ∃ y, (negs f.blocks.length i)[i]? = some y := ⟨_, List.getElem?_eq_getElem (by omega)⟩
    refine .inl ⟨i + 1, ?_, hlt, by omega, rfl⟩
    simp (disch := (first | omega | simp (disch := omega) [hl])) [round_eq, plS, encFn, Try.f74, lv74, hlt, hltI, hl, hy, wrap_i64, intsOf_set, negs_set hlt, -getElem?_pos]
  · have : i = f.blocks.length := by omega
    subst this
    refine .inr ⟨?_, nofun⟩
    have hz : negs f.blocks.length f.blocks.length = List.replicate f.blocks.length (-1) := by simp [negs]
    simp (disch := (first | omega | simp (disch := omega) [hl])) [round_eq, plS, encFn, Try.f74, lv74, hz, -getElem?_pos]

def placeG : Nat → List Int → List Int → List Int
  | _, [], ys => ys
  | i, k :: ks, ys => placeG (i + 1) ks (ys.set k.toNat (i : Int))
def placesF (n : Nat) (ord : List Int) : List Int := placeG 0 ord (List.replicate n (-1))
theorem placeG_length : ∀ (i : Nat) (ks ys : List Int), (placeG i ks ys).length = ys.length
  | _, [], _ => rfl
  | i, k :: ks, ys => by rw [placeG, placeG_length]; simp
@[simp] theorem placesF_length (n : Nat) (ord : List Int) : (placesF n ord).length = n := by simp [placesF, placeG_length]

theorem pl_loop (h : Heap) (f : Fn) (hn : f.blocks.length ≤ 1000) (ord : List Int) (ho : ord.length ≤ 100000) (hb : ∀ k, k ∈ ord → 0 ≤ k ∧ k < f.blocks.length) :
    lpK 74 Try.f74 34 1 h (plS h f (List.replicate f.blocks.length (-1)) (I (f.blocks.length : Nat)) (I (f.blocks.length : Nat)) (I (0 : Nat)) (I (ord.length : Nat)) (Sl (intsOf ord))) = some (.exit 2, plS h f (placesF f.blocks.length ord) (I (f.blocks.length : Nat)) (I (f.blocks.length : Nat)) (I (ord.length : Nat)) (I (ord.length : Nat)) (Sl (intsOf ord))) := by
  have key := loop_fun (P := Try.prog) (C := cfg) (sc := runScope Try.prog cfg 34 h.length (cfg.live 74) 0) (N := 34) (n0 := h.length) (K := cfg.live 74) (c := loopAt Try.f74 1)
    (fun s : Nat × List Int => plS h f s.2 (I (f.blocks.length : Nat)) (I (f.blocks.length : Nat)) (I (s.1 : Nat)) (I (ord.length : Nat)) (Sl (intsOf ord))) (fun s => s.1 ≤ ord.length ∧ s.2.length = f.blocks.length) (fun s => ord.length - s.1)
    (fun s => (.exit 2, plS h f (placeG s.1 (ord.drop s.1) s.2) (I (f.blocks.length : Nat)) (I (f.blocks.length : Nat)) (I (ord.length : Nat)) (I (ord.length : Nat)) (Sl (intsOf ord)))) ?_ (0, List.replicate f.blocks.length (-1)) ⟨Nat.zero_le _, by simp⟩
  · exact key
  rintro ⟨i, ys⟩ ⟨j1, j2⟩
  simp only at j1 j2 ⊢
  rcases Nat.lt_or_ge i ord.length with hlt | hge
  · obtain ⟨k, hd⟩ : ∃ k, ord[i]? = some k := ⟨_, List.getElem?_eq_getElem hlt⟩
    have hdr : ord.drop i = k :: ord.drop (i + 1) := by
      rw [List.drop_eq_getElem_cons hlt]; rw [List.getElem?_eq_getElem hlt] at hd; cases hd; rfl
    have hk := hb k (List.mem_of_getElem? hd)
    have hk0 := hk.1
    have hkn : k.toNat < f.blocks.length := by omega
    have hltI : ((i : Nat) : Int) < ((ord.length : Nat) : Int) := by omega
    obtain ⟨y, hy⟩ : ∃ y, ys[k.toNat]? = some y := ⟨_, List.getElem?_eq_getElem (by omega)⟩
    refine .inl ⟨(i + 1, ys.set k.toNat (i : Int)), ?_, ⟨hlt, by simpa using j2⟩, by simp only; omega, by rw [hdr]; rfl⟩
    simp (disch := (first | omega | simp (disch := omega) [j2])) [round_eq, plS, encFn, Try.f74, lv74, hd, hlt, hltI, hk0, hkn, hy, j2, wrap_i64, intsOf_set, -getElem?_pos]
  · have : i = ord.length := by omega
    subst this
    refine .inr ⟨?_, nofun⟩
    simp (disch := (first | omega | simp (disch := omega) [j2])) [round_eq, plS, encFn, Try.f74, lv74, placeG, j2, -getElem?_pos]

theorem visitF_low (ss : List (List Int)) (hs : Edges ss) : ∀ (m v : Nat) (s : List Bool × List Int), v < ss.length → (∀ k, k ∈ s.2 → 0 ≤ k ∧ k < ss.length) → ∀ k, k ∈ (visitF ss m v s).2 → 0 ≤ k ∧ k < ss.length
  | 0, v, s, _, h => h
  | m + 1, v, s, hv, h => by
    have hb : ∀ b, b ∈ ss.getD v [] → 0 ≤ b ∧ b < ss.length := by
      intro b hb
      rw [List.getD] at hb
      cases he : ss[v]? with
      | none => rw [he] at hb; simp at hb
      | some l => rw [he] at hb; exact (hs.each l (List.mem_of_getElem? he)).2 b hb
    have fold : ∀ (bs : List Int) (s : List Bool × List Int), (∀ b, b ∈ bs → 0 ≤ b ∧ b < ss.length) → (∀ k, k ∈ s.2 → 0 ≤ k ∧ k < ss.length) → ∀ k, k ∈ (bs.foldl (fun s b => if s.1.getD b.toNat false then s else visitF ss m b.toNat s) s).2 → 0 ≤ k ∧ k < ss.length := by
      intro bs
      induction bs with
      | nil => intro s _ h; exact h
      | cons b bs ih =>
        intro s hb h
        rw [List.foldl_cons]
        have h0 := hb b (by simp)
        refine ih _ (fun x hx => hb x (by simp [hx])) ?_
        split
        · exact h
        · exact visitF_low ss hs m b.toNat s (by omega) h
    have h1 := fold (ss.getD v []) (s.1.set v true, s.2) hb h
    intro k hk
    simp only [visitF, List.mem_append] at hk
    rcases hk with hk | hk
    · exact h1 k hk
    · simp at hk; omega
theorem orderF_low {ss : List (List Int)} (hs : Edges ss) (hn : 0 < ss.length) : ∀ k, k ∈ orderF ss → 0 ≤ k ∧ k < ss.length := by
  intro k hk
  unfold orderF at hk
  rw [List.mem_reverse] at hk
  exact visitF_low ss hs _ 0 _ hn (by simp) k hk
theorem orderF_len {ss : List (List Int)} (hs : Edges ss) (hn : 0 < ss.length) : (orderF ss).length ≤ ss.length := by
  have hv0 : (List.replicate ss.length false)[0]? = some false := by rw [List.getElem?_replicate, if_pos hn]
  have hinv := visitF_inv ss hs ss.length 0 (List.replicate ss.length false, []) (by simp) hv0
  have hpl := hinv.post
  simp only [unmet_all, List.length_nil] at hpl
  unfold orderF
  rw [List.length_reverse]
  omega

theorem places (h : Heap) (f : Fn) (hf : f.Fine) (hn : 0 < f.blocks.length) : CX 74 [.agg (encFn f)] h = some (Sl (intsOf (placesF f.blocks.length (orderF (f.blocks.map nextB)))), h, []) := by
  have hb := hf.len
  have e1 := fun h => order h f hf hn
  simp [encFn] at e1
  have hsl : (f.blocks.map nextB).length = f.blocks.length := by simp
  have e2 := pl_fill h f hb
  have ho := orderF_len hf.edges (by omega)
  have hlow := orderF_low hf.edges (by omega)
  have e3 := pl_loop h f hb (orderF (f.blocks.map nextB)) (by omega) (fun k hk => by have := hlow k hk; omega)
  have hz : List.replicate f.blocks.length [Leaf.int .i64 0] = intsOf (negs f.blocks.length 0) := by simp [intsOf, negs]
  have hl0 : (negs f.blocks.length 0).length = f.blocks.length := negs_length (Nat.zero_le _)
  refine CI_of Try.func74 rfl 0 ?_
  have hk : cfg.keep 74 = 0 := rfl
  simp [plS, encFn, lpK, lv74, Try.f74] at e2 e3
  simp (disch := (first | omega | simp (disch := omega) [hl0])) [Try.f74, lv74, hk, encFn, e1, hz, hl0, e2, e3, wrap_i64, -getElem?_pos]
end Go.Proofs.Ytdkknhpdjcdmfaa.Abs

/- Links that lead ahead: who is on a chain; the last one of two chains; a link moved up its own chain. -/
set_option linter.unusedSimpArgs false
set_option linter.unusedVariables false
set_option linter.unusedSectionVars false
namespace Go.Proofs.Ytdkknhpdjcdmfaa.Abs

def lk (up : List Int) (v : Nat) : Int := up.getD v (-1)
def Done (up : List Int) (v : Nat) : Prop := 0 ≤ lk up v
def nx (up : List Int) (v : Nat) : Nat := (lk up v).toNat
inductive Anc (up : List Int) : Nat → Nat → Prop
  | refl (v : Nat) : Anc up v v
  | step {a v : Nat} (h0 : v ≠ 0) (hd : Done up v) (h : Anc up a (nx up v)) : Anc up a v
structure Tr (n : Nat) (pl : Nat → Nat) (up : List Int) : Prop where
  len : up.length = n
  pos : 0 < n
  zero : Done up 0
  pl0 : pl 0 = 0
  link : ∀ v, v < n → Done up v → v ≠ 0 → nx up v < n ∧ Done up (nx up v) ∧ pl (nx up v) < pl v
  inj : ∀ v w, v < n → w < n → Done up v → Done up w → pl v = pl w → v = w

theorem Anc.trans {up : List Int} {a b c : Nat} (h : Anc up a b) (g : Anc up b c) : Anc up a c := by
  induction g with
  | refl => exact h
  | step h0 hd _ ih => exact .step h0 hd ih
section
variable {n : Nat} {pl : Nat → Nat} {up : List Int} (T : Tr n pl up)
include T
theorem Tr.anc {a v : Nat} (h : Anc up a v) : v < n → Done up v → a < n ∧ Done up a ∧ pl a ≤ pl v := by
  induction h with
  | refl => intro h1 h2; exact ⟨h1, h2, Nat.le_refl _⟩
  | step h0 hd _ ih =>
    intro h1 h2
    obtain ⟨g1, g2, g3⟩ := T.link _ h1 h2 h0
    obtain ⟨k1, k2, k3⟩ := ih g1 g2
    exact ⟨k1, k2, by omega⟩
theorem Tr.anc_eq {a v : Nat} (h : Anc up a v) (hv : v < n) (hd : Done up v) (hp : pl v ≤ pl a) : a = v := by
  cases h with
  | refl => rfl
  | step h0 _ h =>
    obtain ⟨g1, g2, g3⟩ := T.link _ hv hd h0
    have := (T.anc h g1 g2).2.2
    omega
theorem Tr.anc_step {a v : Nat} (h : Anc up a v) (hne : a ≠ v) : v ≠ 0 ∧ Done up v ∧ Anc up a (nx up v) := by
  cases h with
  | refl => exact absurd rfl hne
  | step h0 hd h => exact ⟨h0, hd, h⟩
theorem Tr.root : ∀ (m v : Nat), pl v ≤ m → v < n → Done up v → Anc up 0 v
  | m, v, hm, hv, hd => by
    by_cases h0 : v = 0
    · rw [h0]; exact .refl 0
    · obtain ⟨g1, g2, g3⟩ := T.link v hv hd h0
      cases m with
      | zero => omega
      | succ m => exact .step h0 hd (Tr.root m (nx up v) (by omega) g1 g2)
theorem Tr.two {a b v : Nat} (h : Anc up a v) (g : Anc up b v) (hv : v < n) (hd : Done up v) (hp : pl a ≤ pl b) : Anc up a b := by
  induction g with
  | refl => exact h
  | step h0 hd' g ih =>
    rename_i v
    obtain ⟨g1, g2, g3⟩ := T.link v hv hd h0
    by_cases e : a = v
    · rw [e] at hp
      have := (T.anc g g1 g2).2.2
      omega
    · exact ih (T.anc_step h e).2.2 g1 g2

theorem Tr.meets : ∀ (m a b : Nat), pl a + pl b ≤ m → a < n → b < n → Done up a → Done up b → ∃ c, c < n ∧ Done up c ∧ (∀ x, Anc up x c ↔ Anc up x a ∧ Anc up x b)
  | m, a, b, hm, ha, hb, da, db => by
    by_cases hab : a = b
    · subst hab
      exact ⟨a, ha, da, fun x => ⟨fun h => ⟨h, h⟩, fun h => h.1⟩⟩
    · have hne : pl a ≠ pl b := fun e => hab (T.inj a b ha hb da db e)
      rcases Nat.lt_or_gt_of_ne hne with hl | hl
      · have h0 : b ≠ 0 := fun e => by rw [e, T.pl0] at hl; omega
        obtain ⟨g1, g2, g3⟩ := T.link b hb db h0
        cases m with
        | zero => omega
        | succ m =>
          obtain ⟨c, c1, c2, c3⟩ := Tr.meets m a (nx up b) (by omega) ha g1 da g2
          refine ⟨c, c1, c2, fun x => (c3 x).trans ⟨fun h => ⟨h.1, .step h0 db h.2⟩, fun h => ⟨h.1, ?_⟩⟩⟩
          refine (T.anc_step h.2 fun e => ?_).2.2
          rw [e] at h
          have := (T.anc h.1 ha da).2.2
          omega
      · have h0 : a ≠ 0 := fun e => by rw [e, T.pl0] at hl; omega
        obtain ⟨g1, g2, g3⟩ := T.link a ha da h0
        cases m with
        | zero => omega
        | succ m =>
          obtain ⟨c, c1, c2, c3⟩ := Tr.meets m (nx up a) b (by omega) g1 hb g2 db
          refine ⟨c, c1, c2, fun x => (c3 x).trans ⟨fun h => ⟨.step h0 da h.1, h.2⟩, fun h => ⟨?_, h.2⟩⟩⟩
          refine (T.anc_step h.1 fun e => ?_).2.2
          rw [e] at h
          have := (T.anc h.2 hb db).2.2
          omega

/-! A link told anew: to one that stands ahead. -/
variable {k b : Nat} (hk : k < n) (hk0 : k ≠ 0) (hb : b < n) (db : Done up b) (hp : pl b < pl k)
theorem lk_set (hk : k < n) (v : Nat) : lk (up.set k (b : Int)) v = if v = k then (b : Int) else lk up v := by
  have := T.len
  unfold lk
  simp only [List.getD, List.getElem?_set]
  by_cases e : v = k
  · subst e
    rw [if_pos rfl, if_pos rfl, if_pos (by omega)]
    rfl
  · rw [if_neg e, if_neg (fun h => e h.symm)]
theorem done_set (hk : k < n) (v : Nat) : Done (up.set k (b : Int)) v ↔ v = k ∨ Done up v := by
  unfold Done
  rw [lk_set T hk]
  split
  · rename_i e; exact ⟨fun _ => .inl e, fun _ => by omega⟩
  · rename_i e; exact ⟨.inr, fun h => h.resolve_left e⟩
theorem nx_set (hk : k < n) (v : Nat) : nx (up.set k (b : Int)) v = if v = k then b else nx up v := by
  unfold nx
  rw [lk_set T hk]
  split
  · simp
  · rfl
include hk hk0 hb db hp
theorem Tr.set (hi : ∀ v, v < n → Done up v → pl v = pl k → v = k) : Tr n pl (up.set k (b : Int)) := by
  refine ⟨by simpa using T.len, T.pos, (done_set T hk 0).2 (.inr T.zero), T.pl0, fun v hv hd h0 => ?_, fun v w hv hw dv dw e => ?_⟩
  · rw [nx_set T hk]
    split
    · rename_i e; subst e
      exact ⟨hb, (done_set T hk b).2 (.inr db), hp⟩
    · rename_i e
      have hd' := ((done_set T hk v).1 hd).resolve_left e
      obtain ⟨g1, g2, g3⟩ := T.link v hv hd' h0
      exact ⟨g1, (done_set T hk _).2 (.inr g2), g3⟩
  · rcases (done_set T hk v).1 dv with e1 | d1
    · rcases (done_set T hk w).1 dw with e2 | d2
      · rw [e1, e2]
      · subst e1; exact (hi w hw d2 e.symm).symm
    · rcases (done_set T hk w).1 dw with e2 | d2
      · subst e2; exact hi v hv d1 e
      · exact T.inj v w hv hw d1 d2 e
theorem Tr.set_old {x v : Nat} (h : Anc up x v) : v < n → Done up v → ¬ Anc up k v → Anc (up.set k (b : Int)) x v := by
  induction h with
  | refl => intro _ _ _; exact .refl _
  | step h0 hd h ih =>
    rename_i v
    intro hv hd' hn
    have e : v ≠ k := fun e => hn (e ▸ .refl _)
    obtain ⟨g1, g2, g3⟩ := T.link v hv hd' h0
    refine .step h0 ((done_set T hk v).2 (.inr hd')) ?_
    rw [nx_set T hk, if_neg e]
    exact ih g1 g2 fun h => hn (.step h0 hd' h)
theorem Tr.set_new {x v : Nat} (h : Anc (up.set k (b : Int)) x v) : v < n → Done up v → ¬ Anc up k v → Anc up x v := by
  induction h with
  | refl => intro _ _ _; exact .refl _
  | step h0 hd h ih =>
    rename_i v
    intro hv hd' hn
    have e : v ≠ k := fun e => hn (e ▸ .refl _)
    obtain ⟨g1, g2, g3⟩ := T.link v hv hd' h0
    rw [nx_set T hk, if_neg e] at ih
    exact .step h0 hd' (ih g1 g2 fun h => hn (.step h0 hd' h))
theorem Tr.not_b : ¬ Anc up k b := fun h => by
  have := (T.anc h hb db).2.2
  omega
theorem Tr.set_by {x v : Nat} (h : Anc up k v) : v < n → Done up v → (Anc (up.set k (b : Int)) x v ↔ (Anc up x v ∧ pl k ≤ pl x ∧ Anc up k x) ∨ Anc up x b) := by
  have nb := Tr.not_b T hk hk0 hb db hp
  have hbx : ∀ x, Anc (up.set k (b : Int)) x b ↔ Anc up x b := fun x => ⟨fun h => Tr.set_new T hk hk0 hb db hp h hb db nb, fun h => Tr.set_old T hk hk0 hb db hp h hb db nb⟩
  induction h with
  | refl =>
    intro hv hd
    constructor
    · intro h
      cases h with
      | refl => exact .inl ⟨.refl _, Nat.le_refl _, .refl _⟩
      | step h0 hd h =>
        rw [nx_set T hk, if_pos rfl] at h
        exact .inr ((hbx x).1 h)
    · rintro (⟨h1, h2, h3⟩ | h)
      · rw [T.anc_eq h1 hv hd h2]; exact .refl _
      · refine .step hk0 ((done_set T hk k).2 (.inl rfl)) ?_
        rw [nx_set T hk, if_pos rfl]
        exact (hbx x).2 h
  | step h0 hd' h ih =>
    rename_i v
    intro hv hd
    obtain ⟨g1, g2, g3⟩ := T.link v hv hd h0
    have ih' := ih g1 g2
    have hkp := (T.anc h g1 g2).2.2
    have e : v ≠ k := fun e => by subst e; omega
    have hs : nx (up.set k (b : Int)) v = nx up v := by rw [nx_set T hk, if_neg e]
    constructor
    · intro g
      cases g with
      | refl => exact .inl ⟨.refl _, by omega, .step h0 hd' h⟩
      | step _ _ g =>
        rw [hs] at g
        rcases ih'.1 g with ⟨k1, k2, k3⟩ | k1
        · exact .inl ⟨.step h0 hd k1, k2, k3⟩
        · exact .inr k1
    · rintro (⟨k1, k2, k3⟩ | k1)
      · by_cases ex : x = v
        · rw [ex]; exact .refl _
        · refine .step h0 ((done_set T hk v).2 (.inr hd)) ?_
          rw [hs]
          exact ih'.2 (.inl ⟨(T.anc_step k1 ex).2.2, k2, k3⟩)
      · refine .step h0 ((done_set T hk v).2 (.inr hd)) ?_
        rw [hs]
        exact ih'.2 (.inr k1)
end
end Go.Proofs.Ytdkknhpdjcdmfaa.Abs

/- One link told anew, in the order of places: what all of it keeps. -/
set_option linter.unusedSimpArgs false
set_option linter.unusedVariables false
namespace Go.Proofs.Ytdkknhpdjcdmfaa.Abs

structure Flow (n : Nat) (R : Nat → Prop) (pl : Nat → Nat) (pr : Nat → Nat → Prop) : Prop where
  pos : 0 < n
  low : ∀ v, R v → v < n
  zero : R 0
  pl0 : pl 0 = 0
  inj : ∀ v w, R v → R w → pl v = pl w → v = w
  ahead : ∀ v, R v → v ≠ 0 → ∃ p, pr p v ∧ R p ∧ pl p < pl v
  low' : ∀ p v, pr p v → p < n

inductive Wy (pr : Nat → Nat → Prop) (but : Nat) : Nat → Prop
  | zero (h : 0 ≠ but) : Wy pr but 0
  | step {k w : Nat} (hk : Wy pr but k) (hw : pr k w) (hb : w ≠ but) : Wy pr but w

structure PInv (n : Nat) (R : Nat → Prop) (pl : Nat → Nat) (pr : Nat → Nat → Prop) (i : Nat) (up : List Int) : Prop where
  T : Tr n pl up
  a : ∀ j, j < n → Done up j → j ≠ 0 → pl j < i → ∀ p, pr p j → pl p < pl j → Done up p → ∀ x, Anc up x (nx up j) → Anc up x p
  b : ∀ j, j < n → Done up j → j ≠ 0 → i ≤ pl j → ∀ p, pr p j → pl p < pl j → Done up p → ∀ x, Anc up x (nx up j) → i ≤ pl x → Anc up x p
  m : ∀ j, j < n → Done up j → j ≠ 0 → ∀ x, (∀ p, pr p j → Done up p → Anc up x p) → Anc up x (nx up j)
  d : ∀ j, R j → pl j < i → Done up j
  r : ∀ j, j < n → Done up j → R j
  s : (∀ v, R v → Done up v) ∨ (∀ v, v < n → Done up v → pl v < i)
  f : ∀ v, v < n → Done up v → ∀ a, ¬ Wy pr a v → Anc up a v
  no : ∀ v, ¬ Done up v → lk up v = -1

def IsBest (n : Nat) (pr : Nat → Nat → Prop) (up : List Int) (k b : Nat) : Prop := b < n ∧ Done up b ∧ ∀ x, Anc up x b ↔ ∀ p, pr p k → Done up p → Anc up x p

theorem PInv.step {n : Nat} {R : Nat → Prop} {pl : Nat → Nat} {pr : Nat → Nat → Prop} (F : Flow n R pl pr) {up : List Int} {k b : Nat} (I : PInv n R pl pr (pl k) up) (hR : R k) (hk0 : k ≠ 0) (hB : IsBest n pr up k b) :
    pl b < pl k ∧ PInv n R pl pr (pl k + 1) (up.set k (b : Int)) ∧ (Done up k → Anc up b (nx up k)) := by
  have T := I.T
  have hk := F.low k hR
  obtain ⟨hb, db, hx⟩ := hB
  obtain ⟨p0, q1, q2, q3⟩ := F.ahead k hR hk0
  have dp0 := I.d p0 q2 q3
  have hbb := (hx b).1 (.refl b)
  have hp : pl b < pl k := by
    have := (T.anc (hbb p0 q1 dp0) (F.low' _ _ q1) dp0).2.2
    omega
  have hin : ∀ v, v < n → Done up v → pl v = pl k → v = k := fun v hv hd e => F.inj v k (I.r v hv hd) hR e
  have nb := Tr.not_b T hk hk0 hb db hp
  have hbx : ∀ x, Anc (up.set k (b : Int)) x b ↔ Anc up x b := fun x => ⟨fun h => Tr.set_new T hk hk0 hb db hp h hb db nb, fun h => Tr.set_old T hk hk0 hb db hp h hb db nb⟩
  have hD := fun v => done_set T (b := b) hk v
  have hN := fun v => nx_set T (b := b) hk v
  have hupk : Done up k → Anc up b (nx up k) := fun dk => I.m k hk dk hk0 b hbb
  have old : ∀ {x v : Nat}, v < n → Done up v → pl v < pl k → (Anc (up.set k (b : Int)) x v ↔ Anc up x v) := fun {x v} hv hd hl => by
    have hn : ¬ Anc up k v := fun h => by have := (T.anc h hv hd).2.2; omega
    exact ⟨fun h => Tr.set_new T hk hk0 hb db hp h hv hd hn, fun h => Tr.set_old T hk hk0 hb db hp h hv hd hn⟩
  have hbest : ∀ a, a ≠ k → ¬ Wy pr a k → Anc up a b := fun a ha hw => (hx a).2 fun p hpj dp => I.f p (F.low' _ _ hpj) dp a fun h => hw (.step h hpj (fun e => ha e.symm))
  have path : ∀ (a m v : Nat), pl v ≤ m → v < n → Done up v → Anc up k v → pl a < pl k → Wy pr a k → Wy pr a v := by
    intro a m
    induction m with
    | zero =>
      intro v hm hv dv hc ha _
      have := (T.anc hc hv dv).2.2
      omega
    | succ m ih =>
      intro v hm hv dv hc ha hw
      by_cases e : v = k
      · rw [e]; exact hw
      · have hkv := (T.anc hc hv dv).2.2
        obtain ⟨v0, _, hc'⟩ := T.anc_step hc (fun e' => e e'.symm)
        obtain ⟨p, r1, r2, r3⟩ := F.ahead v (I.r v hv dv) v0
        have dp : Done up p := by
          rcases I.s with hs | hs
          · exact hs p r2
          · have := hs v hv dv; omega
        have hcp := I.b v hv dv v0 hkv p r1 r3 dp k hc' (Nat.le_refl _)
        exact .step (ih p (by omega) (F.low' _ _ r1) dp hcp ha hw) r1 (fun e' => by subst e'; omega)
  refine ⟨hp, ⟨Tr.set T hk hk0 hb db hp hin, ?_, ?_, ?_, ?_, ?_, ?_, ?_, fun v hv => ?_⟩, hupk⟩
  rotate_right
  · rw [lk_set T (b := b) hk, if_neg fun e => hv ((hD v).2 (.inl e))]
    exact I.no v fun h => hv ((hD v).2 (.inr h))
  · intro j hj dj hj0 hji p hpj hpl dp x hxj
    have hpn := F.low' _ _ hpj
    have dp' : Done up p := ((hD p).1 dp).resolve_left fun e => by subst e; omega
    by_cases e : j = k
    · subst e
      rw [hN, if_pos rfl] at hxj
      exact (old hpn dp' hpl).2 ((hx x).1 ((hbx x).1 hxj) p hpj dp')
    · have dj' := ((hD j).1 dj).resolve_left e
      have hjl : pl j < pl k := by
        have : pl j ≠ pl k := fun e' => e (hin j hj dj' e')
        omega
      obtain ⟨g1, g2, g3⟩ := T.link j hj dj' hj0
      rw [hN, if_neg e] at hxj
      exact (old hpn dp' (by omega)).2 (I.a j hj dj' hj0 hjl p hpj hpl dp' x ((old g1 g2 (by omega)).1 hxj))
  · intro j hj dj hj0 hji p hpj hpl dp x hxj hxi
    have hpn := F.low' _ _ hpj
    have e : j ≠ k := fun e => by subst e; omega
    have dj' := ((hD j).1 dj).resolve_left e
    obtain ⟨g1, g2, g3⟩ := T.link j hj dj' hj0
    rw [hN, if_neg e] at hxj
    have hxo : Anc up x (nx up j) := by
      by_cases hc : Anc up k (nx up j)
      · rcases (Tr.set_by T hk hk0 hb db hp hc g1 g2).1 hxj with h | h
        · exact h.1
        · have := (T.anc h hb db).2.2
          omega
      · exact Tr.set_new T hk hk0 hb db hp hxj g1 g2 hc
    have dkp : Done up p := by
      rcases (hD p).1 dp with e' | h
      · rcases I.s with hs | hs
        · rw [e']; exact hs k hR
        · have := hs j hj dj'; omega
      · exact h
    have hxp := I.b j hj dj' hj0 (by omega) p hpj hpl dkp x hxo (by omega)
    by_cases hc : Anc up k p
    · exact (Tr.set_by T hk hk0 hb db hp hc hpn dkp).2 (.inl ⟨hxp, by omega, T.two hc hxp hpn dkp (by omega)⟩)
    · exact Tr.set_old T hk hk0 hb db hp hxp hpn dkp hc
  · intro j hj dj hj0 x hxs
    by_cases e : j = k
    · subst e
      rw [hN, if_pos rfl]
      refine (hbx x).2 ?_
      by_cases hxb : Anc up x b
      · exact hxb
      · refine (hx x).2 fun p hpj dp => ?_
        have h := hxs p hpj ((hD p).2 (.inr dp))
        have hpn := F.low' _ _ hpj
        by_cases hc : Anc up j p
        · rcases (Tr.set_by T hk hk0 hb db hp hc hpn dp).1 h with g | g
          · exact g.1
          · exact absurd g hxb
        · exact Tr.set_new T hk hk0 hb db hp h hpn dp hc
    · have dj' := ((hD j).1 dj).resolve_left e
      obtain ⟨g1, g2, g3⟩ := T.link j hj dj' hj0
      rw [hN, if_neg e]
      have hall : ∀ p, pr p j → Done up p → Anc up x p := fun p hpj dp => by
        have h := hxs p hpj ((hD p).2 (.inr dp))
        have hpn := F.low' _ _ hpj
        by_cases hc : Anc up k p
        · rcases (Tr.set_by T hk hk0 hb db hp hc hpn dp).1 h with g | g
          · exact g.1
          · have dk := (T.anc hc hpn dp).2.1
            exact ((g.trans (hupk dk)).trans (.step hk0 dk (.refl _))).trans hc
        · exact Tr.set_new T hk hk0 hb db hp h hpn dp hc
      have hxo := I.m j hj dj' hj0 x hall
      by_cases hc : Anc up k (nx up j)
      · have hkp := (T.anc hc g1 g2).2.2
        obtain ⟨p1, r1, r2, r3⟩ := F.ahead j (I.r j hj dj') hj0
        have hp1 := F.low' _ _ r1
        have dp1 : Done up p1 := by
          rcases I.s with hs | hs
          · exact hs p1 r2
          · have := hs j hj dj'; omega
        have hkp1 := I.b j hj dj' hj0 (by omega) p1 r1 r3 dp1 k hc (Nat.le_refl _)
        have h := hxs p1 r1 ((hD p1).2 (.inr dp1))
        refine (Tr.set_by T hk hk0 hb db hp hc g1 g2).2 ?_
        rcases (Tr.set_by T hk hk0 hb db hp hkp1 hp1 dp1).1 h with g | g
        · exact .inl ⟨hxo, g.2.1, g.2.2⟩
        · exact .inr g
      · exact Tr.set_old T hk hk0 hb db hp hxo g1 g2 hc
  · intro j hj hji
    by_cases e : j = k
    · exact (hD j).2 (.inl e)
    · refine (hD j).2 (.inr (I.d j hj ?_))
      have : pl j ≠ pl k := fun e' => e (F.inj j k hj hR e')
      omega
  · intro j hj dj
    rcases (hD j).1 dj with e | h
    · rw [e]; exact hR
    · exact I.r j hj h
  · rcases I.s with hs | hs
    · exact .inl fun v hv => (hD v).2 (.inr (hs v hv))
    · refine .inr fun v hv dv => ?_
      rcases (hD v).1 dv with e | h
      · rw [e]; omega
      · have := hs v hv h; omega
  · intro v hv dv a hw
    by_cases e : v = k
    · subst e
      by_cases ea : a = v
      · rw [ea]; exact .refl v
      · refine .step hk0 ((hD v).2 (.inl rfl)) ?_
        rw [hN, if_pos rfl]
        exact (hbx a).2 (hbest a ea hw)
    · have dv' := ((hD v).1 dv).resolve_left e
      have hav := I.f v hv dv' a hw
      by_cases hc : Anc up k v
      · refine (Tr.set_by T hk hk0 hb db hp hc hv dv').2 ?_
        by_cases hl : pl k ≤ pl a
        · exact .inl ⟨hav, hl, T.two hc hav hv dv' hl⟩
        · refine .inr (hbest a (fun e => by subst e; omega) fun h => hw (path a _ v (Nat.le_refl _) hv dv' hc (by omega) h))
      · exact Tr.set_old T hk hk0 hb db hp hav hv dv' hc
end Go.Proofs.Ytdkknhpdjcdmfaa.Abs

/- The last block ahead of two. -/
set_option linter.unusedSimpArgs false
set_option linter.unusedVariables false
namespace Go.Proofs.Ytdkknhpdjcdmfaa.Abs
open Go Go.RowKit Go.Proofs

def meetN (up : List Int) (pl : Nat → Nat) : Nat → Nat → Nat → Nat
  | 0, a, _ => a
  | m + 1, a, b => if a = b then a else if pl b < pl a then meetN up pl m (nx up a) b else meetN up pl m a (nx up b)
theorem meetN_ok {n : Nat} {pl : Nat → Nat} {up : List Int} (T : Tr n pl up) : ∀ (m a b : Nat), pl a + pl b < m → a < n → b < n → Done up a → Done up b →
    meetN up pl m a b < n ∧ Done up (meetN up pl m a b) ∧ ∀ x, Anc up x (meetN up pl m a b) ↔ Anc up x a ∧ Anc up x b
  | 0, a, b, h, _, _, _, _ => by omega
  | m + 1, a, b, h, ha, hb, da, db => by
    unfold meetN
    split
    · rename_i e; subst e
      exact ⟨ha, da, fun x => ⟨fun h => ⟨h, h⟩, fun h => h.1⟩⟩
    · rename_i hab
      have hne : pl a ≠ pl b := fun e => hab (T.inj a b ha hb da db e)
      split
      · rename_i hl
        have h0 : a ≠ 0 := fun e => by rw [e, T.pl0] at hl; omega
        obtain ⟨g1, g2, g3⟩ := T.link a ha da h0
        obtain ⟨c1, c2, c3⟩ := meetN_ok T m (nx up a) b (by omega) g1 hb g2 db
        refine ⟨c1, c2, fun x => (c3 x).trans ⟨fun h => ⟨.step h0 da h.1, h.2⟩, fun h => ⟨?_, h.2⟩⟩⟩
        refine (T.anc_step h.1 fun e => ?_).2.2
        rw [e] at h
        have := (T.anc h.2 hb db).2.2
        omega
      · rename_i hl
        have h0 : b ≠ 0 := fun e => by rw [e, T.pl0] at hl hne; omega
        obtain ⟨g1, g2, g3⟩ := T.link b hb db h0
        obtain ⟨c1, c2, c3⟩ := meetN_ok T m a (nx up b) (by omega) ha g1 da g2
        refine ⟨c1, c2, fun x => (c3 x).trans ⟨fun h => ⟨h.1, .step h0 db h.2⟩, fun h => ⟨h.1, ?_⟩⟩⟩
        refine (T.anc_step h.2 fun e => ?_).2.2
        rw [e] at h
        have := (T.anc h.1 ha da).2.2
        omega

def mtS (h : Heap) (k : Nat) (at_ : List Int) (a b : Nat) : St := ⟨[(2, I (a : Nat)), (3, I (b : Nat)), (1, Sl (intsOf at_)), (0, .one (.ptr k 1 0 0))], h, []⟩
theorem mt_loop (h : Heap) (k iu n : Nat) (hkl : k < h.length) (up at_ : List Int) (c1 c2 : Leaf) (hr : rowAt h k 1 = some (3, [[.sl iu 1 n 0 n, c1, c2]])) (hu : rowAt h iu n = some (1, intsOf up)) {pl : Nat → Nat} (T : Tr n pl up) (hl : at_.length = n) (hat : ∀ v, v < n → Done up v → at_[v]? = some (pl v : Int)) (m a b : Nat) (hm : pl a + pl b < m) (ha : a < n) (hb : b < n) (da : Done up a) (db : Done up b) :
    lpK 76 Try.f76 36 0 h (mtS h k at_ a b) = some (.exit 0, mtS h k at_ (meetN up pl m a b) (meetN up pl m a b)) := by
  have q := qt76
  simp [Try.f76, quietFn, quietRegs] at q
  have hw : WsOK h [] := fun id hid => by simp at hid
  have hul := T.len
  have lkn : ∀ v, v < n → Done up v → up[v]? = some (nx up v : Int) := fun v hv hd => by
    have : up[v]? = some (up.getD v (-1)) := by rw [List.getD, List.getElem?_eq_getElem (by omega)]; rfl
    rw [this]
    unfold Done lk at hd
    unfold nx lk
    congr 1
    omega
  refine loop_fun (P := Try.prog) (C := cfg) (sc := runScope Try.prog cfg 36 h.length (cfg.live 76) 0) (N := 36) (n0 := h.length) (K := cfg.live 76) (c := loopAt Try.f76 0)
    (fun s : Nat × Nat × Nat => mtS h k at_ s.2.1 s.2.2) (fun s => pl s.2.1 + pl s.2.2 < s.1 ∧ s.2.1 < n ∧ s.2.2 < n ∧ Done up s.2.1 ∧ Done up s.2.2) (fun s => s.1) (fun s => (.exit 0, mtS h k at_ (meetN up pl s.1 s.2.1 s.2.2) (meetN up pl s.1 s.2.1 s.2.2))) ?_ (m, a, b) ⟨hm, ha, hb, da, db⟩
  rintro ⟨m, a, b⟩ ⟨j1, j2, j3, j4, j5⟩
  simp only at j1 j2 j3 j4 j5 ⊢
  cases m with
  | zero => omega
  | succ m =>
    by_cases hab : a = b
    · subst hab
      refine .inr ⟨?_, nofun⟩
      have hmn : meetN up pl (m + 1) a a = a := by rw [meetN, if_pos rfl]
      rw [hmn]
      simp (disch := (first | omega | simp (disch := omega) [])) [round_eq, mtS, Try.f76, lv76, q, -getElem?_pos, -tidy_eq]
      refine (tidy_call' rfl ?_ hw).trans ?_ <;> simp (disch := omega) [plK_cons, plK_nil, hkl]
    · have hne : pl a ≠ pl b := fun e => hab (T.inj a b j2 j3 j4 j5 e)
      have hA := hat a j2 j4
      have hB := hat b j3 j5
      have hUa := lkn a j2 j4
      have hUb := lkn b j3 j5
      have hi : (((a : Nat) : Int) != ((b : Nat) : Int)) = true := by simp; omega
      by_cases hlt : pl b < pl a
      · have hltI : (pl b : Int) < (pl a : Int) := by omega
        have h0 : a ≠ 0 := fun e => by rw [e, T.pl0] at hlt; omega
        obtain ⟨g1, g2, g3⟩ := T.link a j2 j4 h0
        refine .inl ⟨(m, nx up a, b), ?_, ⟨by simp only; omega, g1, j3, g2, j5⟩, by simp only; omega, by rw [meetN, if_neg hab, if_pos hlt]⟩
        simp (disch := (first | omega | simp (disch := omega) [])) [round_eq, mtS, Try.f76, lv76, q, hab, hi, hA, hB, hUa, hUb, hlt, hltI, hl, j2, j3, hr, hu, -getElem?_pos, -tidy_eq]
        refine (tidy_call' rfl ?_ hw).trans ?_ <;> simp (disch := omega) [plK_cons, plK_nil, hkl]
      · have hltI : ¬ (pl b : Int) < (pl a : Int) := by omega
        have h0 : b ≠ 0 := fun e => by rw [e, T.pl0] at hlt hne; omega
        obtain ⟨g1, g2, g3⟩ := T.link b j3 j5 h0
        refine .inl ⟨(m, a, nx up b), ?_, ⟨by simp only; omega, j2, g1, j4, g2⟩, by simp only; omega, by rw [meetN, if_neg hab, if_neg hlt]⟩
        simp (disch := (first | omega | simp (disch := omega) [])) [round_eq, mtS, Try.f76, lv76, q, hab, hi, hA, hB, hUa, hUb, hlt, hltI, hl, j2, j3, hr, hu, -getElem?_pos, -tidy_eq]
        refine (tidy_call' rfl ?_ hw).trans ?_ <;> simp (disch := omega) [plK_cons, plK_nil, hkl]

theorem meet (h : Heap) (k iu n : Nat) (up at_ : List Int) (c1 c2 : Leaf) (hr : rowAt h k 1 = some (3, [[.sl iu 1 n 0 n, c1, c2]])) (hu : rowAt h iu n = some (1, intsOf up)) {pl : Nat → Nat} (T : Tr n pl up) (hl : at_.length = n) (hat : ∀ v, v < n → Done up v → at_[v]? = some (pl v : Int)) (m a b : Nat) (hm : pl a + pl b < m) (ha : a < n) (hb : b < n) (da : Done up a) (db : Done up b) :
    CX 76 [.one (.ptr k 1 0 0), Sl (intsOf at_), I (a : Nat), I (b : Nat)] h = some (I (meetN up pl m a b : Nat), h, []) := by
  have hkl : k < h.length := (List.getElem?_eq_some_iff.1 (rowAt_some hr).1).1
  have hw : WsOK h [] := fun id hid => by simp at hid
  have e := mt_loop h k iu n hkl up at_ c1 c2 hr hu T hl hat m a b hm ha hb da db
  refine CI_of Try.func76 rfl 0 ?_
  have hkp : cfg.keep 76 = 0 := rfl
  simp [mtS, lpK, lv76, Try.f76] at e
  simp (disch := (first | omega | simp (disch := omega) [])) [Try.f76, lv76, hkp, -getElem?_pos, -tidy_eq]
  rw [tidy_call' rfl ?_ hw]
  · simp (disch := (first | omega | simp (disch := omega) [])) [e, hkp, -tidy_eq]
  · simp (disch := omega) [plK_cons, plK_nil, hkl]
end Go.Proofs.Ytdkknhpdjcdmfaa.Abs

/- Are two lists of numbers the same? -/
set_option linter.unusedSimpArgs false
set_option linter.unusedVariables false
namespace Go.Proofs.Ytdkknhpdjcdmfaa.Abs
open Go Go.RowKit Go.Proofs

def eqS (h : Heap) (xs ys : List Int) (r : Bool) (i : Nat) : St := ⟨[(0, Sl (intsOf xs)), (1, Sl (intsOf ys)), (13, I (i : Nat)), (12, I (xs.length : Nat)), (4, Bo r)], h, []⟩
theorem eq_loop (h : Heap) (xs ys : List Int) (hf : Fit xs) (hl : xs.length = ys.length) : lpK 77 Try.f77 26 0 h (eqS h xs ys false 0) =
    some (match findI (differs ys) 0 xs with | some i => (.ret, eqS h xs ys false i) | none => (.exit 0, eqS h xs ys false xs.length)) := by
  have q := qt77
  simp [Try.f77, quietFn, quietRegs] at q
  refine loop_search xs (differs ys) (eqS h xs ys false) (fun i => (.ret, eqS h xs ys false i)) (.exit 0, eqS h xs ys false xs.length) ?_ ?_ ?_
  · intro i x hx hi hp _
    have hy : ys[i]? = some x := by simpa [differs] using hp
    have hiI : ((i : Nat) : Int) < ((xs.length : Nat) : Int) := by omega
    simp (disch := omega) [round_eq, eqS, Try.f77, lv77, hx, hy, hi, hiI, wrap_i64, q, -getElem?_pos]
  · intro i x hx hi hp _
    obtain ⟨y, hy⟩ : ∃ y, ys[i]? = some y := ⟨ys[i]'(by omega), by simp [show i < ys.length by omega]⟩
    have hiI : ((i : Nat) : Int) < ((xs.length : Nat) : Int) := by omega
    have hne : (x != y) = true := by simp [differs, hy] at hp ⊢; exact fun e => hp e.symm
    simp (disch := omega) [round_eq, eqS, Try.f77, lv77, hx, hy, hi, hiI, wrap_i64, hne, q, -getElem?_pos]
  · intro _
    simp (disch := omega) [round_eq, eqS, Try.f77, lv77]

theorem equal (h : Heap) (xs ys : List Int) (hf : Fit xs) : CX 77 [Sl (intsOf xs), Sl (intsOf ys)] h = some (Bo (decide (xs = ys)), h, []) := by
  refine CI_of Try.func77 rfl 0 ?_
  have hk : cfg.keep 77 = 0 := rfl
  by_cases hl : xs.length = ys.length
  · have e := eq_loop h xs ys hf hl
    rw [← findI_eq xs ys hl]
    simp [eqS, lpK, lv77, Try.f77, hl] at e
    cases hh : findI (differs ys) 0 xs <;> rw [hh] at e <;> simp (disch := omega) [Try.f77, lv77, e, hk, hl]
  · have hl' : ((xs.length : Int) != (ys.length : Int)) = true := by simp; omega
    have hne : xs ≠ ys := by rintro rfl; exact hl rfl
    simp (disch := omega) [Try.f77, lv77, hk, hl', hne]
end Go.Proofs.Ytdkknhpdjcdmfaa.Abs

/- Lists that are sorted, place by place; neighbours put the other way round. -/
set_option linter.unusedSimpArgs false
set_option linter.unusedVariables false
namespace Go.Proofs.Ytdkknhpdjcdmfaa.Abs
open Go Go.RowKit Go.Proofs

def SrtBut (ys : List Int) (i j : Nat) : Prop := ∀ (p q : Nat) (x y : Int), p < q → q ≤ i → q ≠ j → ys[p]? = some x → ys[q]? = some y → x ≤ y
def SrtTo (ys : List Int) (i : Nat) : Prop := ∀ (p q : Nat) (x y : Int), p < q → q < i → ys[p]? = some x → ys[q]? = some y → x ≤ y

theorem srt_start {ys : List Int} {i : Nat} (h : SrtTo ys i) : SrtBut ys i i := fun p q x y h1 h2 h3 => h p q x y h1 (by omega)
theorem srt_zero {ys : List Int} {i : Nat} (h : SrtBut ys i 0) : SrtTo ys (i + 1) := fun p q x y h1 h2 => h p q x y h1 (by omega) (by omega)
theorem srt_first (ys : List Int) : SrtTo ys 1 := fun p q x y h1 h2 => by omega
theorem srt_done {ys : List Int} {i j : Nat} {a b : Int} (h : SrtBut ys i (j + 1)) (hj : j + 1 ≤ i) (ha : ys[j + 1]? = some a) (hb : ys[j]? = some b) (hab : ¬ a < b) : SrtTo ys (i + 1) := fun p q x y h1 h2 hx hy => by
  by_cases hq : q = j + 1
  · subst hq
    rw [ha] at hy; cases hy
    by_cases hp : p = j
    · subst hp; rw [hb] at hx; cases hx; omega
    · have := h p j x b (by omega) (by omega) (by omega) hx hb
      omega
  · exact h p q x y h1 (by omega) hq hx hy
theorem swap_get {ys : List Int} {j : Nat} {a b : Int} (ha : ys[j + 1]? = some a) (hb : ys[j]? = some b) (p : Nat) : ((ys.set (j + 1) b).set j a)[p]? = if p = j then some a else if p = j + 1 then some b else ys[p]? := by
  have h1 := (List.getElem?_eq_some_iff.1 ha).1
  have h2 := (List.getElem?_eq_some_iff.1 hb).1
  by_cases e1 : p = j
  · subst e1
    rw [if_pos rfl, List.getElem?_set, if_pos rfl, if_pos (by simpa using h2)]
  · rw [if_neg e1, List.getElem?_set, if_neg (fun e => e1 e.symm), List.getElem?_set]
    by_cases e2 : p = j + 1
    · subst e2
      rw [if_pos rfl, if_pos rfl, if_pos h1]
    · rw [if_neg e2, if_neg (fun e => e2 e.symm)]
theorem srt_swap {ys : List Int} {i j : Nat} {a b : Int} (h : SrtBut ys i (j + 1)) (hj : j + 1 ≤ i) (ha : ys[j + 1]? = some a) (hb : ys[j]? = some b) (hab : a < b) : SrtBut ((ys.set (j + 1) b).set j a) i j := fun p q x y h1 h2 h3 hx hy => by
  rw [swap_get ha hb] at hx hy
  rw [if_neg h3] at hy
  by_cases q1 : q = j + 1
  · subst q1
    rw [if_pos rfl] at hy; cases hy
    by_cases p1 : p = j
    · rw [if_pos p1] at hx; cases hx; omega
    · rw [if_neg p1, if_neg (by omega)] at hx
      exact h p j x b (by omega) (by omega) (by omega) hx hb
  · rw [if_neg q1] at hy
    by_cases p1 : p = j
    · rw [if_pos p1] at hx; cases hx
      exact h (j + 1) q a y (by omega) h2 q1 ha hy
    · rw [if_neg p1] at hx
      by_cases p2 : p = j + 1
      · rw [if_pos p2] at hx; cases hx
        exact h j q b y (by omega) h2 q1 hb hy
      · rw [if_neg p2] at hx
        exact h p q x y h1 h2 q1 hx hy
theorem swap_perm {ys : List Int} {j : Nat} {a b : Int} (ha : ys[j + 1]? = some a) (hb : ys[j]? = some b) : ((ys.set (j + 1) b).set j a).Perm ys := by
  have h1 := (List.getElem?_eq_some_iff.1 ha).1
  have e1 : ys = ys.take j ++ b :: a :: ys.drop (j + 2) := by
    have d1 := List.drop_eq_getElem_cons (l := ys) (i := j) (by omega)
    have d2 := List.drop_eq_getElem_cons (l := ys) (i := j + 1) (by omega)
    rw [(List.getElem?_eq_some_iff.1 hb).2] at d1
    rw [(List.getElem?_eq_some_iff.1 ha).2] at d2
    rw [d2] at d1
    rw [← d1, List.take_append_drop]
  have hlt : (ys.take j).length = j := by simp; omega
  have e2 : (ys.set (j + 1) b).set j a = ys.take j ++ a :: b :: ys.drop (j + 2) := by
    apply List.ext_getElem?
    intro p
    rw [swap_get ha hb]
    by_cases p1 : p < j
    · rw [if_neg (by omega), if_neg (by omega), List.getElem?_append_left (by omega), List.getElem?_take, if_pos p1]
    · rw [List.getElem?_append_right (by omega), hlt]
      by_cases p2 : p = j
      · subst p2; rw [if_pos rfl, Nat.sub_self]; rfl
      · rw [if_neg p2]
        by_cases p3 : p = j + 1
        · subst p3; rw [if_pos rfl, show j + 1 - j = 0 + 1 by omega]; rfl
        · rw [if_neg p3, show p - j = (p - (j + 2)) + 1 + 1 by omega]
          simp only [List.getElem?_cons_succ, List.getElem?_drop]
          rw [show j + 2 + (p - (j + 2)) = p by omega]
  rw [e2]
  conv => rhs; rw [e1]
  exact List.Perm.append_left _ (List.Perm.swap _ _ _)
end Go.Proofs.Ytdkknhpdjcdmfaa.Abs

/- A few numbers of a caller's, sorted: the same length, whatever order. -/
set_option linter.unusedSimpArgs false
set_option linter.unusedVariables false
namespace Go.Proofs.Ytdkknhpdjcdmfaa.Abs
open Go Go.RowKit Go.Proofs

def stJ (n0 : Nat) : V → Prop
  | .one l => stL n0 l = true
  | .junk => True
  | _ => False
def PlJ (n0 : Nat) (T : Tmps) : List (Nat × Kd) → Prop
  | [] => True
  | e :: K => (e.2 = .p ∧ stJ n0 (tget T e.1)) ∧ PlJ n0 T K
theorem plJ_cons (n0 : Nat) (T : Tmps) (i : Nat) (kd : Kd) (K : List (Nat × Kd)) : PlJ n0 T ((i, kd) :: K) = ((kd = .p ∧ stJ n0 (tget T i)) ∧ PlJ n0 T K) := rfl
theorem plJ_nil (n0 : Nat) (T : Tmps) : PlJ n0 T [] = True := rfl
@[simp] theorem stJ_one (n0 : Nat) (l : Leaf) : stJ n0 (.one l) = (stL n0 l = true) := rfl
@[simp] theorem stJ_junk (n0 : Nat) : stJ n0 .junk = True := rfl
theorem plJ_kdL {H : Heap} {n0 : Nat} {T : Tmps} : ∀ {K : List (Nat × Kd)}, PlJ n0 T K → kdL H n0 T K = []
  | [], _ => rfl
  | e :: K, h => by rw [kdL, h.1.1, plJ_kdL h.2]; rfl
theorem plJ_kdAll {H : Heap} {n0 : Nat} {L : List (Option Nat)} {T : Tmps} : ∀ {K : List (Nat × Kd)} (p : Nat), PlJ n0 T K → kdAll H n0 L T p K = some (K.map fun e => (e.1, tget T e.1), [])
  | [], p, _ => rfl
  | e :: K, p, h => by
    obtain ⟨⟨h1, h2⟩, h4⟩ := h
    have h5 : fzV H n0 L (tget T e.1) = some (tget T e.1) := by
      cases hv : tget T e.1 with
      | one l => rw [hv] at h2; show (fzT _ _ _ l).map V.one = _; rw [stL_fz h2]; rfl
      | junk => rfl
      | agg cs => rw [hv] at h2; exact h2.elim
      | tup vs => rw [hv] at h2; exact h2.elim
    unfold kdAll
    rw [h1]
    simp only [kdNew, h5, List.length_nil, Nat.add_zero, plJ_kdAll p h4]
    simp
theorem tidy_callJ {H : Heap} {n0 : Nat} {T : Tmps} {ws : List Nat} {K : List (Nat × Kd)} (hn : H.length = n0) (hK : PlJ n0 T K) (hw : WsOK H ws) : tidy n0 K ⟨T, H, ws⟩ = ⟨K.map fun e => (e.1, tget T e.1), H, wsOf n0 ws⟩ := by
  subst hn
  have h1 := fzH_call (g := []) (wsOf H.length ws) (fun x hx => (wsOf_mem hx).2) fun x hx => hw x (wsOf_mem hx).1
  rw [List.append_nil] at h1
  unfold tidy tidyO
  simp only [plJ_kdL hK, plJ_kdAll 0 hK, okL, if_true, List.take_length, h1, List.append_nil]

theorem isNaN (h : Heap) (a : Int) : CX 150 [I a] h = some (Bo false, h, []) := by
  refine CI_of Try.func150 rfl 0 ?_
  have hk : cfg.keep 150 = 0 := rfl
  simp (disch := omega) [Try.f150, hk]
theorem less (h : Heap) (a b : Int) : CX 127 [I a, I b] h = some (Bo (decide (a < b)), h, []) := by
  refine CI_of Try.func127 rfl 0 ?_
  have hk : cfg.keep 127 = 0 := rfl
  simp (disch := omega) [Try.f127, hk, isNaN]

def isS (h : Heap) (k n : Nat) (ys : List Int) (i : Nat) (j : V) (ws : List Nat) : St :=
  ⟨[(1, I 0), (6, I (i : Nat)), (2, I (n : Nat)), (7, j), (0, .one (.sl k 1 n 0 n))], updH h k 1 (intsOf ys), ws⟩
theorem wsOK_upd {h : Heap} {k : Nat} (hk : k < h.length) {ys : List Int} {ws : List Nat} (hw : ∀ x, x ∈ ws → x = k) : WsOK (updH h k 1 (intsOf ys)) ws := by
  intro id hid hlt
  rw [hw id hid]
  exact ⟨1, intsOf ys, upd_get hk, ints_st _ _⟩
theorem is_in (h : Heap) (k : Nat) (hk : k < h.length) (n : Nat) (hn : n ≤ 1000) (i : Nat) (hi : i < n) (ys : List Int) (ws : List Nat) (hl : ys.length = n) (hw : ∀ x, x ∈ ws → x = k) (j : Nat) (hj : j ≤ i) (hso : SrtBut ys i j) :
    ∃ ys' j' ws', lpK 121 Try.f121 49 1 h (isS h k n ys i (I (j : Nat)) ws) = some (.exit 2, isS h k n ys' i (I j') ws') ∧ (ys'.length = n ∧ ys'.Perm ys ∧ SrtTo ys' (i + 1)) ∧ ∀ x, x ∈ ws' → x = k := by
  have d := dt121
  simp [Try.f121, infoFn, infoRegs, List.lookup] at d
  have q := qt121
  simp [Try.f121, quietFn, quietRegs] at q
  have key := loop_rel (P := Try.prog) (C := cfg) (sc := runScope Try.prog cfg 49 h.length (cfg.live 121) 0) (N := 49) (n0 := h.length) (K := cfg.live 121) (c := loopAt Try.f121 1)
    (fun s : Nat × List Int × List Nat => isS h k n s.2.1 i (I (s.1 : Nat)) s.2.2)
    (fun s => (s.2.1.length = n ∧ s.2.1.Perm ys ∧ SrtBut s.2.1 i s.1) ∧ s.1 ≤ i ∧ ∀ x, x ∈ s.2.2 → x = k) (fun s => s.1)
    (fun s r => ∃ ys' j' ws', r = (.exit 2, isS h k n ys' i (I j') ws') ∧ (ys'.length = n ∧ ys'.Perm ys ∧ SrtTo ys' (i + 1)) ∧ ∀ x, x ∈ ws' → x = k) ?_ (j, ys, ws) ⟨⟨hl, .refl _, hso⟩, hj, hw⟩
  · obtain ⟨r, h1, ys', j', ws', rfl, h2⟩ := key
    exact ⟨ys', j', ws', h1, h2⟩
  clear hl hj hw ws hso j
  generalize ys = ys0
  clear ys
  rintro ⟨j, ys, ws⟩ ⟨⟨hl, hpm, hso⟩, hj, hw⟩
  simp only at hl hpm hso hj hw ⊢
  have hwk := wsOK_upd hk (ys := ys) hw
  cases j with
  | zero =>
    refine .inr ⟨(.exit 2, isS h k n ys i (I 0) (wsOf h.length ws)), ?_, nofun, ys, 0, _, rfl, ⟨hl, hpm, srt_zero hso⟩, fun x hx => hw x (wsOf_mem hx).1⟩
    simp (disch := (first | omega | simp (disch := omega) [hk])) [round_eq, isS, Try.f121, lv121, q, -getElem?_pos, -tidy_eq]
    refine (tidy_callJ (n0 := h.length) (by simp) ?_ hwk).trans ?_ <;> simp (disch := omega) [plJ_cons, plJ_nil, hk]
  | succ j =>
    obtain ⟨a, ha⟩ : ∃ a, ys[j + 1]? = some a := ⟨_, List.getElem?_eq_getElem (by omega)⟩
    obtain ⟨b, hb⟩ : ∃ b, ys[j]? = some b := ⟨_, List.getElem?_eq_getElem (by omega)⟩
    have hjn : j < n := by omega
    have hjn1 : j + 1 < n := by omega
    have h01 : (0 : Int) ≤ (j : Int) + 1 := by omega
    by_cases hab : a < b
    · have hwk2 : ∀ x, x ∈ ws ++ [k, k] → x = k := fun x hx => by
        rcases List.mem_append.1 hx with hx | hx
        · exact hw x hx
        · simpa using hx
      refine .inl ⟨(j, (ys.set (j + 1) b).set j a, wsOf h.length (ws ++ [k, k])), ?_, ⟨⟨by simpa using hl, (swap_perm ha hb).trans hpm, srt_swap hso hj ha hb hab⟩, by first | omega | (simp only; omega), fun x hx => hwk2 x (wsOf_mem hx).1⟩, by first | omega | (simp only; omega), fun r hr => hr⟩
      simp (disch := (first | omega | simp (disch := omega) [hk, hl])) [round_eq, isS, Try.f121, lv121, q, less, ha, hb, hab, hl, hk, hjn, hjn1, h01, wrap_i64, d, unOK, apartR, disjoint, cellsApart, intsOf_set, -getElem?_pos, -tidy_eq]
      refine (tidy_callJ (n0 := h.length) (by simp) ?_ ?_).trans ?_
      · simp (disch := omega) [plJ_cons, plJ_nil, hk]
      · exact wsOK_upd hk hwk2
      · simp
    · refine .inr ⟨(.exit 2, isS h k n ys i (I ((j : Int) + 1)) (wsOf h.length ws)), ?_, nofun, ys, _, _, rfl, ⟨hl, hpm, srt_done hso hj ha hb hab⟩, fun x hx => hw x (wsOf_mem hx).1⟩
      simp (disch := (first | omega | simp (disch := omega) [hk, hl])) [round_eq, isS, Try.f121, lv121, q, less, ha, hb, hab, hl, hk, hjn, hjn1, h01, wrap_i64, -getElem?_pos, -tidy_eq]
      refine (tidy_callJ (n0 := h.length) (by simp) ?_ hwk).trans ?_ <;> simp (disch := omega) [plJ_cons, plJ_nil, hk]

theorem is_out (h : Heap) (k : Nat) (hk : k < h.length) (n : Nat) (hn : n ≤ 1000) (ys : List Int) (hl : ys.length = n) :
    ∃ ys' i j' ws', lpK 121 Try.f121 49 0 h (isS h k n ys 1 .junk []) = some (.exit 0, isS h k n ys' i j' ws') ∧ (ys'.length = n ∧ ys'.Perm ys ∧ SrtTo ys' n) ∧ stJ h.length j' ∧ ∀ x, x ∈ ws' → x = k := by
  have key := loop_rel (P := Try.prog) (C := cfg) (sc := runScope Try.prog cfg 49 h.length (cfg.live 121) 0) (N := 49) (n0 := h.length) (K := cfg.live 121) (c := loopAt Try.f121 0)
    (fun s : Nat × List Int × V × List Nat => isS h k n s.2.1 s.1 s.2.2.1 s.2.2.2)
    (fun s => (s.2.1.length = n ∧ s.2.1.Perm ys ∧ SrtTo s.2.1 s.1) ∧ stJ h.length s.2.2.1 ∧ ∀ x, x ∈ s.2.2.2 → x = k) (fun s => n - s.1)
    (fun s r => ∃ ys' i j' ws', r = (.exit 0, isS h k n ys' i j' ws') ∧ (ys'.length = n ∧ ys'.Perm ys ∧ SrtTo ys' n) ∧ stJ h.length j' ∧ ∀ x, x ∈ ws' → x = k) ?_ (1, ys, .junk, []) ⟨⟨hl, .refl _, srt_first _⟩, trivial, by simp⟩
  · obtain ⟨r, h1, ys', i, j', ws', rfl, h2⟩ := key
    exact ⟨ys', i, j', ws', h1, h2⟩
  clear hl
  generalize ys = ys0
  clear ys
  rintro ⟨i, ys, j, ws⟩ ⟨⟨hl, hpm, hso⟩, hj, hw⟩
  simp only at hl hpm hso hj hw ⊢
  have hwk := wsOK_upd hk (ys := ys) hw
  rcases Nat.lt_or_ge i n with hi | hi
  · obtain ⟨ys', j', ws', e, ⟨hl', hpm', hso'⟩, hw'⟩ := is_in h k hk n hn i hi ys (wsOf h.length ws) hl (fun x hx => hw x (wsOf_mem hx).1) i (Nat.le_refl _) (srt_start hso)
    have hwk' := wsOK_upd hk (ys := ys') hw'
    have hiI : ((i : Nat) : Int) < ((n : Nat) : Int) := by omega
    refine .inl ⟨(i + 1, ys', I j', wsOf h.length ws'), ?_, ⟨⟨hl', hpm'.trans hpm, hso'⟩, stJ_one _ _ ▸ rfl, fun x hx => hw' x (wsOf_mem hx).1⟩, by first | omega | (simp only; omega), fun r hr => hr⟩
    simp [isS, lpK, lv121, Try.f121] at e
    simp (disch := (first | omega | simp (disch := omega) [hk, hl])) [round_eq, isS, Try.f121, lv121, hiI, -getElem?_pos, -tidy_eq]
    rw [tidy_callJ (n0 := h.length) (by simp) ?_ hwk]
    rotate_left
    · simp (disch := omega) [plJ_cons, plJ_nil, hk]
    simp (disch := (first | omega | simp (disch := omega) [hk, hl])) [isS, hiI, e, wrap_i64, -getElem?_pos, -tidy_eq]
    refine (tidy_callJ (n0 := h.length) (by simp) ?_ hwk').trans ?_ <;> simp (disch := omega) [plJ_cons, plJ_nil, hk]
  · have hiI : ¬ ((i : Nat) : Int) < ((n : Nat) : Int) := by omega
    refine .inr ⟨(.exit 0, isS h k n ys i j (wsOf h.length ws)), ?_, nofun, ys, _, _, _, rfl, ⟨hl, hpm, fun p q x y h1 h2 => hso p q x y h1 (by omega)⟩, hj, fun x hx => hw x (wsOf_mem hx).1⟩
    simp (disch := (first | omega | simp (disch := omega) [hk, hl])) [round_eq, isS, Try.f121, lv121, hiI, -getElem?_pos, -tidy_eq]
    refine (tidy_callJ (n0 := h.length) (by simp) ?_ hwk).trans ?_ <;> simp (disch := omega) [plJ_cons, plJ_nil, hk, hj]

theorem insort (h : Heap) (k : Nat) (hk : k < h.length) (n : Nat) (hn : n ≤ 1000) (ys : List Int) (hl : ys.length = n) :
    ∃ ys' ws, CX 121 [.one (.sl k 1 n 0 n), I 0, I (n : Nat)] (updH h k 1 (intsOf ys)) = some (.tup [], updH h k 1 (intsOf ys'), ws) ∧ (ys'.length = n ∧ ys'.Perm ys ∧ SrtTo ys' n) ∧ ∀ x, x ∈ ws → x = k := by
  obtain ⟨ys', i, j', ws', e, ⟨hl', hpm⟩, hj, hw⟩ := is_out h k hk n hn ys hl
  have hwk := wsOK_upd hk (ys := ys') hw
  have hw0 : WsOK (updH h k 1 (intsOf ys)) [] := fun id hid => by simp at hid
  refine ⟨ys', wsOf h.length ws', CI_of Try.func121 rfl 0 ?_, ⟨hl', hpm⟩, fun x hx => hw x (wsOf_mem hx).1⟩
  have hkp : cfg.keep 121 = 0 := rfl
  simp [isS, lpK, lv121, Try.f121] at e
  simp (disch := (first | omega | simp (disch := omega) [hk])) [Try.f121, lv121, hk, wrap_i64, -getElem?_pos, -tidy_eq, -wrapUp_zero]
  rw [tidy_callJ (n0 := h.length) (by simp) ?_ hw0]
  · simp (disch := (first | omega | simp (disch := omega) [hk])) [e, hkp, -tidy_eq, -wrapUp_zero]
    have := wrap_call (g := []) (H := updH h k 1 (intsOf ys')) (n0 := h.length) (by simp) hwk
    simpa using this
  · simp (disch := omega) [plJ_cons, plJ_nil, hk]
end Go.Proofs.Ytdkknhpdjcdmfaa.Abs

/- slices.Sort of a few numbers of a caller's. -/
set_option linter.unusedSimpArgs false
set_option linter.unusedVariables false
namespace Go.Proofs.Ytdkknhpdjcdmfaa.Abs
open Go Go.RowKit Go.Proofs

def oneI : Option (V × Heap × List Nat) → Bool
  | some (.one (.int .i64 _), [], []) => true
  | _ => false
theorem oneI_eq {r : Option (V × Heap × List Nat)} (h : oneI r = true) : ∃ m : Int, r = some (I m, [], []) := by
  unfold oneI at h
  split at h
  · exact ⟨_, rfl⟩
  · cases h
theorem bitlen (n : Nat) (hn : n ≤ 12) : ∃ m : Int, CX 102 [.one (.int .u64 (n : Nat))] [] = some (I m, [], []) := by
  have key : ∀ _k : Nat, oneI (absCall Try.prog cfg 40 102 [.one (.int .u64 (n : Nat))] []) = true → ∃ m : Int, CX 102 [.one (.int .u64 (n : Nat))] [] = some (I m, [], []) := fun _ e => by
    obtain ⟨m, e⟩ := oneI_eq e
    exact ⟨m, CI_run 40 e⟩
  refine key 0 ?_
  have hc : n = 0 ∨ n = 1 ∨ n = 2 ∨ n = 3 ∨ n = 4 ∨ n = 5 ∨ n = 6 ∨ n = 7 ∨ n = 8 ∨ n = 9 ∨ n = 10 ∨ n = 11 ∨ n = 12 := by omega
  clear key hn
  rcases hc with rfl | rfl | rfl | rfl | rfl | rfl | rfl | rfl | rfl | rfl | rfl | rfl | rfl <;> decide +kernel

def pqS (h : Heap) (k n : Nat) (ys : List Int) (m : Int) (ws : List Nat) : St :=
  ⟨[(2, I (n : Nat)), (1, I 0), (0, .one (.sl k 1 n 0 n)), (3, I m), (8, Bo true), (9, Bo true)], updH h k 1 (intsOf ys), ws⟩
theorem pq_loop (h : Heap) (k : Nat) (hk : k < h.length) (n : Nat) (hn : n ≤ 12) (ys : List Int) (hl : ys.length = n) (m : Int) :
    ∃ ys' ws', lpK 101 Try.f101 134 0 h (pqS h k n ys m []) = some (.ret, pqS h k n ys' m ws') ∧ (ys'.length = n ∧ ys'.Perm ys ∧ SrtTo ys' n) ∧ ∀ x, x ∈ ws' → x = k := by
  have key := loop_rel (P := Try.prog) (C := cfg) (sc := runScope Try.prog cfg 134 h.length (cfg.live 101) 0) (N := 134) (n0 := h.length) (K := cfg.live 101) (c := loopAt Try.f101 0)
    (fun _ : Unit => pqS h k n ys m []) (fun _ => True) (fun _ => 0)
    (fun s r => ∃ ys' ws', r = (.ret, pqS h k n ys' m ws') ∧ (ys'.length = n ∧ ys'.Perm ys ∧ SrtTo ys' n) ∧ ∀ x, x ∈ ws' → x = k) ?_ () trivial
  · obtain ⟨r, h1, ys', ws', rfl, h2⟩ := key
    exact ⟨ys', ws', h1, h2⟩
  rintro ⟨⟩ _
  obtain ⟨ys', ws, e, ⟨hl', hpm⟩, hw⟩ := insort h k hk n (by omega) ys hl
  have hnI : ((n : Nat) : Int) ≤ 12 := by omega
  have hwk := wsOK_upd hk (ys := ys') hw
  refine .inr ⟨(.ret, pqS h k n ys' m (wsOf h.length ws)), ?_, nofun, ys', _, rfl, ⟨hl', hpm⟩, fun x hx => hw x (wsOf_mem hx).1⟩
  simp (disch := (first | omega | simp (disch := omega) [hk, hl])) [round_eq, pqS, Try.f101, lv101, hnI, e, wrap_i64, -getElem?_pos, -tidy_eq]
  refine (tidy_callJ (n0 := h.length) (by simp) ?_ hwk).trans ?_ <;> simp (disch := omega) [plJ_cons, plJ_nil, hk]
theorem pdq (h : Heap) (k : Nat) (hk : k < h.length) (n : Nat) (hn : n ≤ 12) (ys : List Int) (hl : ys.length = n) (m : Int) :
    ∃ ys' ws, CX 101 [.one (.sl k 1 n 0 n), I 0, I (n : Nat), I m] (updH h k 1 (intsOf ys)) = some (.tup [], updH h k 1 (intsOf ys'), ws) ∧ (ys'.length = n ∧ ys'.Perm ys ∧ SrtTo ys' n) ∧ ∀ x, x ∈ ws → x = k := by
  obtain ⟨ys', ws', e, ⟨hl', hpm⟩, hw⟩ := pq_loop h k hk n hn ys hl m
  have hwk := wsOK_upd hk (ys := ys') hw
  have hw0 : WsOK (updH h k 1 (intsOf ys)) [] := fun id hid => by simp at hid
  refine ⟨ys', wsOf h.length ws', CI_of Try.func101 rfl 0 ?_, ⟨hl', hpm⟩, fun x hx => hw x (wsOf_mem hx).1⟩
  have hkp : cfg.keep 101 = 0 := rfl
  simp [pqS, lpK, lv101, Try.f101] at e
  simp (disch := (first | omega | simp (disch := omega) [hk])) [Try.f101, lv101, hk, wrap_i64, -getElem?_pos, -tidy_eq, -wrapUp_zero]
  rw [tidy_callJ (n0 := h.length) (by simp) ?_ hw0]
  · simp (disch := (first | omega | simp (disch := omega) [hk])) [e, hkp, -tidy_eq, -wrapUp_zero]
    have := wrap_call (g := []) (H := updH h k 1 (intsOf ys')) (n0 := h.length) (by simp) hwk
    simpa using this
  · simp (disch := omega) [plJ_cons, plJ_nil, hk]

theorem sort (h : Heap) (k : Nat) (hk : k < h.length) (n : Nat) (hn : n ≤ 12) (ys : List Int) (hl : ys.length = n) :
    ∃ ys' ws, CX 78 [.one (.sl k 1 n 0 n)] (updH h k 1 (intsOf ys)) = some (.tup [], updH h k 1 (intsOf ys'), ws) ∧ (ys'.length = n ∧ ys'.Perm ys ∧ SrtTo ys' n) ∧ ∀ x, x ∈ ws → x = k := by
  obtain ⟨m, e1⟩ := bitlen n hn
  obtain ⟨ys', ws', e, ⟨hl', hpm⟩, hw⟩ := pdq h k hk n hn ys hl m
  have hwk := wsOK_upd hk (ys := ys') hw
  have hnI : (n : Int) < 18446744073709551616 := by omega
  have hwr : IntKind.u64.wrap ((n : Nat) : Int) = (n : Int) := by unfold IntKind.wrap; simp [IntKind.bits]; omega
  refine ⟨ys', wsOf h.length ws', CI_of Try.func78 rfl 0 ?_, ⟨hl', hpm⟩, fun x hx => hw x (wsOf_mem hx).1⟩
  have hkp : cfg.keep 78 = 0 := rfl
  simp (disch := (first | omega | simp (disch := omega) [hk])) [Try.f78, hkp, e1, e, hwr, wrap_i64, -getElem?_pos, -tidy_eq, -wrapUp_zero]
  have := wrap_call (g := []) (H := updH h k 1 (intsOf ys')) (n0 := h.length) (by simp) hwk
  simpa using this
end Go.Proofs.Ytdkknhpdjcdmfaa.Abs

/- The state of dom.Of, in order. -/
set_option linter.unusedSimpArgs false
set_option linter.unusedVariables false
namespace Go.Proofs.Ytdkknhpdjcdmfaa.Abs
open Go Go.RowKit Go.Proofs

abbrev K61 : List (Nat × Kd) := [(1, .b []), (3, .p), (35, .p), (34, .p), (9, .s 1 []), (6, .p), (67, .p), (66, .p), (65, .p), (8, .p), (11, .p), (76, .p), (75, .p), (74, .p), (12, .p), (7, .p), (116, .p), (115, .p), (114, .p), (174, .p), (173, .p), (172, .p), (4, .b2 [(2, []), (2, []), (2, [2])])]
theorem lvOf : cfg.live 32 = K61 := rfl

def DomK (T : Tmps) (v1 v9 v4 vx : V) : List (Nat × Kd) → Prop
  | [] => True
  | e :: K => (match e.2 with
    | .p => plV (tget T e.1) = true ∨ tget T e.1 = vx
    | .b _ => e.2 = .b [] ∧ tget T e.1 = v1
    | .s _ _ => e.2 = .s 1 [] ∧ tget T e.1 = v9
    | .b2 _ => e.2 = .b2 [(2, []), (2, []), (2, [2])] ∧ tget T e.1 = v4
    | _ => False) ∧ DomK T v1 v9 v4 vx K
theorem domK_p (T : Tmps) (v1 v9 v4 vx : V) (i : Nat) (K : List (Nat × Kd)) : DomK T v1 v9 v4 vx ((i, .p) :: K) = ((plV (tget T i) = true ∨ tget T i = vx) ∧ DomK T v1 v9 v4 vx K) := rfl
theorem domK_b (T : Tmps) (v1 v9 v4 vx : V) (i : Nat) (ks : List Nat) (K : List (Nat × Kd)) : DomK T v1 v9 v4 vx ((i, .b ks) :: K) = ((Kd.b ks = .b [] ∧ tget T i = v1) ∧ DomK T v1 v9 v4 vx K) := rfl
theorem domK_s (T : Tmps) (v1 v9 v4 vx : V) (i e : Nat) (ks : List Nat) (K : List (Nat × Kd)) : DomK T v1 v9 v4 vx ((i, .s e ks) :: K) = ((Kd.s e ks = .s 1 [] ∧ tget T i = v9) ∧ DomK T v1 v9 v4 vx K) := rfl
theorem domK_b2 (T : Tmps) (v1 v9 v4 vx : V) (i : Nat) (ks : List (Nat × List Nat)) (K : List (Nat × Kd)) : DomK T v1 v9 v4 vx ((i, .b2 ks) :: K) = ((Kd.b2 ks = .b2 [(2, []), (2, []), (2, [2])] ∧ tget T i = v4) ∧ DomK T v1 v9 v4 vx K) := rfl
theorem domK_nil (T : Tmps) (v1 v9 v4 vx : V) : DomK T v1 v9 v4 vx [] = True := rfl
theorem domK_keep {H : Heap} {n0 m : Nat} {T : Tmps} {v1 v9 v4 vx : V} (h1 : keepV H n0 m v1 = true) (h9 : keepV H n0 m v9 = true) (h4 : keepV H n0 m v4 = true) (hx : keepV H n0 m vx = true) (o1 : KdOK H n0 v1 (.b [])) (o9 : KdOK H n0 v9 (.s 1 [])) (o4 : KdOK H n0 v4 (.b2 [(2, []), (2, []), (2, [2])])) :
    ∀ {K : List (Nat × Kd)}, DomK T v1 v9 v4 vx K → KeepK H n0 m T K
  | [], _ => trivial
  | (i, kd) :: K, hK => by
    refine ⟨?_, domK_keep h1 h9 h4 hx o1 o9 o4 hK.2⟩
    have := hK.1
    cases kd with
    | p => exact ⟨this.elim plV_keep fun e => by simp only at e ⊢; rw [e]; exact hx, trivial⟩
    | b ks => obtain ⟨e1, e2⟩ := this; simp only at e1 e2 ⊢; rw [e2, e1]; exact ⟨h1, o1⟩
    | s e ks => obtain ⟨e1, e2⟩ := this; simp only at e1 e2 ⊢; rw [e2, e1]; exact ⟨h9, o9⟩
    | b2 ks => obtain ⟨e1, e2⟩ := this; simp only at e1 e2 ⊢; rw [e2, e1]; exact ⟨h4, o4⟩
    | m => exact this.elim
    | r i => exact this.elim
    | x i => exact this.elim
    | it b => exact this.elim

def domH (n0 n : Nat) (bf bw : Option AO) (up dp : List Int) (kids : List (List Int)) : Heap :=
  bf :: bw :: some (.row 3 [[.sl (n0 + 3) 1 n 0 n, .sl (n0 + 4) 1 n 0 n, .sl (n0 + 5) 1 n 0 n]]) :: some (.row 1 (intsOf up)) :: some (.row 1 (intsOf dp)) :: some (.row 1 (outR n0 6 kids)) :: fam kids
def WasOK (n0 n : Nat) (v9 : V) (bw : Option AO) : Prop := (v9 = .junk ∧ bw = none) ∨ (v9 = .one (.sl (n0 + 1) 1 n 0 n) ∧ ∃ ws, bw = some (.row 1 (intsOf ws)))
theorem keepR_ints (H : Heap) (n0 m : Nat) (xs : List Int) : keepR H n0 m (intsOf xs) = true := by
  unfold keepR intsOf
  rw [List.all_map]
  exact List.all_eq_true.2 fun x _ => rfl

theorem tidy_dom {h g : Heap} {T : Tmps} {ws : List Nat} {n : Nat} {cf : List Leaf} {v9 : V} {bw : Option AO} {up dp : List Int} {kids : List (List Int)} (hkn : kids.length = n) (hcf : cf.all plL = true) (hw9 : WasOK h.length n v9 bw)
    (hK : DomK T (.one (.ptr h.length 1 0 0)) v9 (.one (.ptr (h.length + 2) 1 0 0)) (.one (.sl (h.length + 5) 1 n 0 n)) K61) (hw : wsOf h.length ws = []) :
    tidy h.length K61 ⟨T, h ++ (domH h.length n (some (.row 5 [cf])) bw up dp kids ++ g), ws⟩ = ⟨K61.map fun e => (e.1, tget T e.1), h ++ domH h.length n (some (.row 5 [cf])) bw up dp kids, []⟩ := by
  subst hkn
  have hT1 : tget T 1 = .one (.ptr h.length 1 0 0) := hK.1.2
  have hT9 : tget T 9 = v9 := hK.2.2.2.2.1.2
  have hT4 : tget T 4 = .one (.ptr (h.length + 2) 1 0 0) := hK.2.2.2.2.2.2.2.2.2.2.2.2.2.2.2.2.2.2.2.2.2.2.1.2
  have at2 : (h ++ (domH h.length kids.length (some (.row 5 [cf])) bw up dp kids ++ g))[h.length + 2]? = some (some (.row 3 [[.sl (h.length + 3) 1 kids.length 0 kids.length, .sl (h.length + 4) 1 kids.length 0 kids.length, .sl (h.length + 5) 1 kids.length 0 kids.length]])) := by
    rw [List.getElem?_append_right (by omega), Nat.add_sub_cancel_left]; rfl
  have at5 : (h ++ (domH h.length kids.length (some (.row 5 [cf])) bw up dp kids ++ g))[h.length + 5]? = some (some (.row 1 (outR h.length 6 kids))) := by
    rw [List.getElem?_append_right (by omega), Nat.add_sub_cancel_left]; rfl
  have hin : insideIds (h ++ (domH h.length kids.length (some (.row 5 [cf])) bw up dp kids ++ g)) h.length [2] (some (h.length + 5)) = idsR h.length 6 kids.length := by
    simp only [insideIds, at5]
    exact cells_outR (Nat.le_refl _) 6 kids
  have own : ∀ j, ownId h.length (.sl (h.length + j) 1 kids.length 0 kids.length) = some (h.length + j) := fun j => by simp [ownId, refId]
  have hin2 : insideIds2 (h ++ (domH h.length kids.length (some (.row 5 [cf])) bw up dp kids ++ g)) h.length [(2, []), (2, []), (2, [2])] (some (h.length + 2)) = some (h.length + 3) :: some (h.length + 4) :: some (h.length + 5) :: idsR h.length 6 kids.length := by
    simp only [insideIds2, at2, List.flatMap_cons, List.flatMap_nil, cellIds2, own, hin]
    simp [insideIds]
  have hr4 : rootOf h.length (.one (.ptr (h.length + 2) 1 0 0)) = some (h.length + 2) := by simp [rootOf, ownId, refId]
  have hr1 : rootOf h.length (.one (.ptr h.length 1 0 0)) = some h.length := by simp [rootOf, ownId, refId]
  have hL : kdL (h ++ (domH h.length kids.length (some (.row 5 [cf])) bw up dp kids ++ g)) h.length T K61 = some h.length :: rootOf h.length v9 :: some (h.length + 2) :: some (h.length + 3) :: some (h.length + 4) :: some (h.length + 5) :: idsR h.length 6 kids.length := by
    simp only [kdL, kdIds, hT1, hT9, hT4, hr1, hr4, hin2]
    simp [insideIds]
  have hc : Canon h.length 0 (domH h.length kids.length (some (.row 5 [cf])) bw up dp kids ++ g) (some h.length :: rootOf h.length v9 :: some (h.length + 2) :: some (h.length + 3) :: some (h.length + 4) :: some (h.length + 5) :: idsR h.length 6 kids.length) := by
    refine ⟨rfl, rfl, ?_⟩
    have tl : Canon h.length 2 (some (AO.row 3 [[.sl (h.length + 3) 1 kids.length 0 kids.length, .sl (h.length + 4) 1 kids.length 0 kids.length, .sl (h.length + 5) 1 kids.length 0 kids.length]]) :: some (.row 1 (intsOf up)) :: some (.row 1 (intsOf dp)) :: some (.row 1 (outR h.length 6 kids)) :: (fam kids ++ g)) (some (h.length + 2) :: some (h.length + 3) :: some (h.length + 4) :: some (h.length + 5) :: idsR h.length 6 kids.length) :=
      ⟨rfl, rfl, rfl, rfl, rfl, rfl, rfl, rfl, canon_fam _ _ _ _⟩
    rcases hw9 with ⟨rfl, rfl⟩ | ⟨rfl, ws, rfl⟩
    · exact ⟨rfl, tl⟩
    · have : rootOf h.length (.one (.sl (h.length + 1) 1 kids.length 0 kids.length)) = some (h.length + 1) := by simp [rootOf, ownId, refId]
      rw [this]
      exact ⟨rfl, rfl, tl⟩
  have hlen : (some h.length :: rootOf h.length v9 :: some (h.length + 2) :: some (h.length + 3) :: some (h.length + 4) :: some (h.length + 5) :: idsR h.length 6 kids.length).length = kids.length + 6 := by simp
  have hobj : ∀ i, 2 ≤ i → i < kids.length + 6 → isObj (h ++ (domH h.length kids.length (some (.row 5 [cf])) bw up dp kids ++ g))[h.length + i]? = true := by
    intro i h2 hi
    rw [List.getElem?_append_right (by omega), Nat.add_sub_cancel_left]
    by_cases h6 : i < 6
    · have : i = 2 ∨ i = 3 ∨ i = 4 ∨ i = 5 := by omega
      rcases this with rfl | rfl | rfl | rfl <;> rfl
    · obtain ⟨j, rfl⟩ : ∃ j, i = j + 6 := ⟨i - 6, by omega⟩
      show isObj (fam kids ++ g)[j]? = true
      rw [List.getElem?_append_left (by simp; omega), fam_get, List.getElem?_eq_getElem (by omega)]
      rfl
  have hobj0 : isObj (h ++ (domH h.length kids.length (some (.row 5 [cf])) bw up dp kids ++ g))[h.length]? = true := by
    rw [List.getElem?_append_right (Nat.le_refl _), Nat.sub_self]; rfl
  have hk9 : keepV (h ++ (domH h.length kids.length (some (.row 5 [cf])) bw up dp kids ++ g)) h.length (kids.length + 6) v9 = true := by
    rcases hw9 with ⟨rfl, rfl⟩ | ⟨rfl, ws, rfl⟩
    · rfl
    · have : isObj (h ++ (domH h.length kids.length (some (.row 5 [cf])) (some (.row 1 (intsOf ws))) up dp kids ++ g))[h.length + 1]? = true := by
        rw [List.getElem?_append_right (by omega), Nat.add_sub_cancel_left]; rfl
      simp only [keepV, keepL, this]
      simp
  have key := tidy_keep (ws := ws) hL hc (by
    rw [hlen]
    refine domK_keep (v1 := .one (.ptr h.length 1 0 0)) (v9 := v9) (v4 := .one (.ptr (h.length + 2) 1 0 0)) (vx := .one (.sl (h.length + 5) 1 kids.length 0 kids.length)) ?_ hk9 ?_ ?_ ?_ ?_ ?_ hK
    · simp only [keepV, keepL, hobj0]; simp
    · simp only [keepV, keepL, hobj 2 (by omega) (by omega)]; simp
    · simp only [keepV, keepL, hobj 5 (by omega) (by omega)]; simp
    · simp only [KdOK, hr1]
      trivial
    · rcases hw9 with ⟨rfl, rfl⟩ | ⟨rfl, ws, rfl⟩
      · exact ⟨by simp, trivial⟩
      · refine ⟨by simp, ?_⟩
        have : rootOf h.length (.one (.sl (h.length + 1) 1 kids.length 0 kids.length)) = some (h.length + 1) := by simp [rootOf, ownId, refId]
        rw [this]; trivial
    · simp only [KdOK, hr4]
      refine ⟨3, _, at2, fun cs hcs => ?_⟩
      simp at hcs
      subst hcs
      refine ⟨⟨⟨by simp, by rw [own]; trivial⟩, ⟨by simp, by rw [own]; trivial⟩, ⟨by simp, ?_⟩, trivial⟩, by simp⟩
      rw [own]
      exact ⟨1, _, at5, fun cs hcs => noNil_outR 6 kids cs hcs⟩) (by
    rw [hlen]
    show KeepT _ _ _ (kids.length + 6) _
    refine ⟨?_, ?_, ?_, keepR_ints _ _ _ _, keepR_ints _ _ _ _, ?_, ?_⟩
    · show keepR _ _ _ [cf] = true
      simp only [keepR, List.all_cons, List.all_nil, Bool.and_true, keepC]
      exact List.all_eq_true.2 fun l hl => plL_keep (List.all_eq_true.1 hcf l hl)
    · rcases hw9 with ⟨rfl, rfl⟩ | ⟨rfl, ws, rfl⟩
      · rfl
      · exact keepR_ints _ _ _ _
    · show keepR _ _ _ _ = true
      simp only [keepR, List.all_cons, List.all_nil, Bool.and_true, keepC, keepL, hobj 3 (by omega) (by omega), hobj 4 (by omega) (by omega), hobj 5 (by omega) (by omega)]
      simp
    · exact keep_outR 6 kids fun i hi => ⟨by omega, hobj (6 + i) (by omega) (by omega)⟩
    · exact keep_fam g kids) hw
  rw [key, hlen]
  congr 2
  have : (domH h.length kids.length (some (.row 5 [cf])) bw up dp kids).length = kids.length + 6 := by simp [domH]
  rw [← this, List.take_left']
  rfl
theorem tidy_dom' {h : Heap} {T : Tmps} {ws : List Nat} {n : Nat} {cf : List Leaf} {v9 : V} {bw : Option AO} {up dp : List Int} {kids : List (List Int)} (hkn : kids.length = n) (hcf : cf.all plL = true) (hw9 : WasOK h.length n v9 bw)
    (hK : DomK T (.one (.ptr h.length 1 0 0)) v9 (.one (.ptr (h.length + 2) 1 0 0)) (.one (.sl (h.length + 5) 1 n 0 n)) K61) (hw : wsOf h.length ws = []) :
    tidy h.length K61 ⟨T, h ++ domH h.length n (some (.row 5 [cf])) bw up dp kids, ws⟩ = ⟨K61.map fun e => (e.1, tget T e.1), h ++ domH h.length n (some (.row 5 [cf])) bw up dp kids, []⟩ := by
  have := tidy_dom (g := []) (up := up) (dp := dp) hkn hcf hw9 hK hw
  rwa [List.append_nil] at this
end Go.Proofs.Ytdkknhpdjcdmfaa.Abs

/- The state of dom.Of, just made. -/
set_option linter.unusedSimpArgs false
set_option linter.unusedVariables false
namespace Go.Proofs.Ytdkknhpdjcdmfaa.Abs
open Go Go.RowKit Go.Proofs

def dom0H (n0 n : Nat) (bf : Option AO) (up dp : List Int) : Heap :=
  [bf, some (.row 1 (intsOf up)), some (.row 1 (intsOf dp)), some (.row 1 (List.replicate n [.nils])), some (.row 3 [[.sl (n0 + 1) 1 n 0 n, .sl (n0 + 2) 1 n 0 n, .sl (n0 + 3) 1 n 0 n]])]
theorem mapO_ints {H : Heap} {n0 : Nat} {L : List (Option Nat)} (xs : List Int) : mapO (mapO (fzT H n0 L)) (intsOf xs) = some (intsOf xs) :=
  mapO_id fun cs hcs => by
    simp only [intsOf, List.mem_map] at hcs
    obtain ⟨x, _, rfl⟩ := hcs
    rfl

theorem tidy_dom0 {h : Heap} {T : Tmps} {ws : List Nat} {n : Nat} {cf : List Leaf} {up dp : List Int} (hcf : cf.all plL = true)
    (hK : DomK T (.one (.ptr h.length 1 0 0)) .junk (.one (.ptr (h.length + 4) 1 0 0)) .junk K61) (hw : wsOf h.length ws = []) :
    tidy h.length K61 ⟨T, h ++ dom0H h.length n (some (.row 5 [cf])) up dp, ws⟩ = ⟨K61.map fun e => (e.1, if e.1 = 4 then .one (.ptr (h.length + 2) 1 0 0) else tget T e.1), h ++ domH h.length n (some (.row 5 [cf])) none up dp (List.replicate n []), []⟩ := by
  obtain ⟨⟨_, hT1⟩, p3, p35, p34, ⟨_, hT9⟩, p6, p67, p66, p65, p8, p11, p76, p75, p74, p12, p7, p116, p115, p114, p174, p173, p172, ⟨_, hT4⟩, _⟩ := hK
  simp only at hT1 hT9 hT4 p3 p35 p34 p6 p67 p66 p65 p8 p11 p76 p75 p74 p12 p7 p116 p115 p114 p174 p173 p172
  have pj : ∀ {v : V}, plV v = true ∨ v = .junk → plV v = true := fun h => h.elim id fun e => by rw [e]; rfl
  replace p3 := pj p3
  replace p35 := pj p35
  replace p34 := pj p34
  replace p6 := pj p6
  replace p67 := pj p67
  replace p66 := pj p66
  replace p65 := pj p65
  replace p8 := pj p8
  replace p11 := pj p11
  replace p76 := pj p76
  replace p75 := pj p75
  replace p74 := pj p74
  replace p12 := pj p12
  replace p7 := pj p7
  replace p116 := pj p116
  replace p115 := pj p115
  replace p114 := pj p114
  replace p174 := pj p174
  replace p173 := pj p173
  replace p172 := pj p172
  generalize hH : h ++ dom0H h.length n (some (.row 5 [cf])) up dp = H
  have at0 : H[h.length]? = some (some (.row 5 [cf])) := by
    rw [← hH, List.getElem?_append_right (by omega), Nat.sub_self]; rfl
  have at1 : H[h.length + 1]? = some (some (.row 1 (intsOf up))) := by
    rw [← hH, List.getElem?_append_right (by omega), Nat.add_sub_cancel_left]; rfl
  have at2 : H[h.length + 2]? = some (some (.row 1 (intsOf dp))) := by
    rw [← hH, List.getElem?_append_right (by omega), Nat.add_sub_cancel_left]; rfl
  have at3 : H[h.length + 3]? = some (some (.row 1 (List.replicate n [.nils]))) := by
    rw [← hH, List.getElem?_append_right (by omega), Nat.add_sub_cancel_left]; rfl
  have at4 : H[h.length + 4]? = some (some (.row 3 [[.sl (h.length + 1) 1 n 0 n, .sl (h.length + 2) 1 n 0 n, .sl (h.length + 3) 1 n 0 n]])) := by
    rw [← hH, List.getElem?_append_right (by omega), Nat.add_sub_cancel_left]; rfl
  have own : ∀ j, ownId h.length (.sl (h.length + j) 1 n 0 n) = some (h.length + j) := fun j => by simp [ownId, refId]
  have hr4 : rootOf h.length (.one (.ptr (h.length + 4) 1 0 0)) = some (h.length + 4) := by simp [rootOf, ownId, refId]
  have hr1 : rootOf h.length (.one (.ptr h.length 1 0 0)) = some h.length := by simp [rootOf, ownId, refId]
  have hr9 : rootOf h.length .junk = none := rfl
  have hfl : ∀ n, (List.replicate n [Leaf.nils]).flatMap (cellIds h.length [2]) = List.replicate n none := by
    intro n
    induction n with
    | zero => rfl
    | succ n ih => rw [List.replicate_succ, List.flatMap_cons, ih]; simp [cellIds, ownId, refId, List.replicate_succ]
  generalize hLd : (some h.length :: none :: some (h.length + 4) :: some (h.length + 1) :: some (h.length + 2) :: some (h.length + 3) :: List.replicate n none) = L
  have hL : kdL H h.length T K61 = L := by
    rw [← hLd]
    simp only [kdL, kdIds, hT1, hT9, hT4, hr1, hr4, hr9, insideIds2, at4, List.flatMap_cons, List.flatMap_nil, cellIds2, own, insideIds, at3, hfl]
    simp
  have hok : okL h.length L = true := by
    have h1 : ∀ n, okL h.length (List.replicate n none) = true := by
      intro n
      induction n with
      | zero => rfl
      | succ n ih => rw [List.replicate_succ]; exact ih
    rw [← hLd]
    simp only [okL, h1]
    simp
  have pl0 : placeOf h.length L h.length = some h.length := by rw [← hLd]; simp [placeOf, placeAt]
  have pl1 : placeOf (h.length + 1) L h.length = some (h.length + 3) := by rw [← hLd]; simp [placeOf, placeAt]
  have pl2 : placeOf (h.length + 2) L h.length = some (h.length + 4) := by rw [← hLd]; simp [placeOf, placeAt]
  have pl3 : placeOf (h.length + 3) L h.length = some (h.length + 5) := by rw [← hLd]; simp [placeOf, placeAt]
  have pl4 : placeOf (h.length + 4) L h.length = some (h.length + 2) := by rw [← hLd]; simp [placeOf, placeAt]
  have fz0 : fzV H h.length L (.one (.ptr h.length 1 0 0)) = some (.one (.ptr h.length 1 0 0)) := by
    show (fzT _ _ _ _).map V.one = _
    rw [fzT_ptr, if_pos (by omega), pl0]; rfl
  have fz4 : fzV H h.length L (.one (.ptr (h.length + 4) 1 0 0)) = some (.one (.ptr (h.length + 2) 1 0 0)) := by
    show (fzT _ _ _ _).map V.one = _
    rw [fzT_ptr, if_pos (by omega), pl4]; rfl
  have fs1 : fzT H h.length L (.sl (h.length + 1) 1 n 0 n) = some (.sl (h.length + 3) 1 n 0 n) := by rw [fzT_sl, if_pos (by omega), pl1]; rfl
  have fs2 : fzT H h.length L (.sl (h.length + 2) 1 n 0 n) = some (.sl (h.length + 4) 1 n 0 n) := by rw [fzT_sl, if_pos (by omega), pl2]; rfl
  have fs3 : fzT H h.length L (.sl (h.length + 3) 1 n 0 n) = some (.sl (h.length + 5) 1 n 0 n) := by rw [fzT_sl, if_pos (by omega), pl3]; rfl
  have ob0 : objOf H h.length L (some h.length) = some (some (.row 5 [cf])) := by
    have : mapO (fzT H h.length L) cf = some cf := mapO_id fun l hl => plL_fz (List.all_eq_true.1 hcf l hl)
    simp only [objOf, at0, fzO, mapO, this]
    rfl
  have ob1 : objOf H h.length L (some (h.length + 1)) = some (some (.row 1 (intsOf up))) := by
    simp only [objOf, at1, fzO, mapO_ints]; rfl
  have ob2 : objOf H h.length L (some (h.length + 2)) = some (some (.row 1 (intsOf dp))) := by
    simp only [objOf, at2, fzO, mapO_ints]; rfl
  have hrows : ∀ (n p : Nat), newRows H h.length L [2] p (List.replicate n [.nils]) = some (outR h.length p (List.replicate n []), fam (List.replicate n [])) := by
    intro n
    induction n with
    | zero => intro p; rfl
    | succ n ih =>
      intro p
      rw [List.replicate_succ]
      simp only [newRows, newCells, List.length_cons, List.length_nil, ih]
      simp [outR, fam, List.replicate_succ, mapO]
  have hnew : newRoot2 H h.length L 2 [(2, []), (2, []), (2, [2])] (some (h.length + 4)) = some (some (.row 3 [[.sl (h.length + 3) 1 n 0 n, .sl (h.length + 4) 1 n 0 n, .sl (h.length + 5) 1 n 0 n]]) :: some (.row 1 (intsOf up)) :: some (.row 1 (intsOf dp)) :: some (.row 1 (outR h.length 6 (List.replicate n []))) :: fam (List.replicate n [])) := by
    simp only [newRoot2, at4, newRows2, newCells2, fs1, fs2, fs3, own, newRoot, ob1, ob2, at3, hrows, mapO, List.length_cons, List.length_nil]
    simp
  have hall : kdAll H h.length L T 0 K61 = some (K61.map fun e => (e.1, if e.1 = 4 then .one (.ptr (h.length + 2) 1 0 0) else tget T e.1), domH h.length n (some (.row 5 [cf])) none up dp (List.replicate n [])) := by
    have fj : fzV H h.length L .junk = some .junk := rfl
    simp only [kdAll, kdNew, hT1, hT9, hT4, fz0, fz4, fj, hr1, hr9, hr4, newRoot, ob0, plV_fz p3, plV_fz p35, plV_fz p34, plV_fz p6, plV_fz p67, plV_fz p66, plV_fz p65, plV_fz p8, plV_fz p11, plV_fz p76, plV_fz p75, plV_fz p74, plV_fz p12, plV_fz p7, plV_fz p116, plV_fz p115, plV_fz p114, plV_fz p174, plV_fz p173, plV_fz p172, List.length_cons, List.length_nil, Nat.zero_add, Nat.add_zero, hnew]
    simp [domH, hT1, hT9]
  unfold tidy tidyO
  simp only [hL, hok, if_true, hall, hw, fzH]
  rw [← hH, List.take_left']
  rfl
end Go.Proofs.Ytdkknhpdjcdmfaa.Abs
