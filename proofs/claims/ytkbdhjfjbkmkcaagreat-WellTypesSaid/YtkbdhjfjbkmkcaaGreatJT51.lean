/- YtkbdhjfjbkmkcaaGreatJT51: texts that follow each other, as one. -/
import Derived.Test.YtkbdhjfjbkmkcaaGreatJT50
/- In which order blocks are met, as the document tells it; is each one reached. -/
set_option linter.unusedSimpArgs false
set_option linter.unusedVariables false
namespace Go.Proofs.YtkbdhjfjbkmkcaaGreat.Abs
open Go Go.RowKit Go.Proofs

theorem nodup_len : ∀ (n : Nat) (l : List Int), l.Nodup → (∀ x, x ∈ l → 0 ≤ x ∧ x < n) → l.length ≤ n
  | 0, l, _, h => by
    cases l with
    | nil => simp
    | cons x l => have := h x (by simp); omega
  | n + 1, l, hn, h => by
    by_cases hm : (n : Int) ∈ l
    · have h1 := nodup_len n (l.erase (n : Int)) (hn.erase _) fun x hx => by
        obtain ⟨g1, g2⟩ := (hn.mem_erase_iff).1 hx
        have := h x g2
        omega
      rw [List.length_erase_of_mem hm] at h1
      omega
    · have h1 := nodup_len n l hn fun x hx => by
        have := h x hx
        have : x ≠ (n : Int) := fun e => hm (e ▸ hx)
        omega
      omega
def RchL (ss : List (List Int)) (l : List Int) : Prop := ∀ x, x ∈ l → 0 ≤ x ∧ x < ss.length ∧ Rch ss [0] (-1) x.toNat
theorem RchL.app {ss : List (List Int)} {a b : List Int} (h : RchL ss a) (g : RchL ss b) : RchL ss (a ++ b) := fun x hx => (List.mem_append.1 hx).elim (h x) (g x)
theorem RchL.left {ss : List (List Int)} {a b : List Int} (h : RchL ss (a ++ b)) : RchL ss a := fun x hx => h x (by simp [hx])
theorem RchL.right {ss : List (List Int)} {a b : List Int} (h : RchL ss (a ++ b)) : RchL ss b := fun x hx => h x (by simp [hx])
theorem RchL.len {ss : List (List Int)} {a : List Int} (h : RchL ss a) (g : a.Nodup) : a.length ≤ ss.length := nodup_len _ _ g fun x hx => ⟨(h x hx).1, (h x hx).2.1⟩

def OutV (v : V) (out : List Int) : Prop := v = Sl (intsOf out) ∨ (v = .one .nils ∧ out = [])
def p8W (h : Heap) (f : Fn) (path : List Int) (k i : Nat) (nx : List Int) (out : V) : St :=
  ⟨[(9, .one (.sl h.length 1 path.length 0 path.length)), (1, I (k : Nat)), (4, .one (.ptr (h.length + 1) 1 0 0)), (12, I (i : Nat)), (11, Sl (intsOf nx)), (10, out)], h ++ [some (.row 1 (intsOf path)), some (.row 5 [encFn f])], []⟩

def hasN (h : Heap) (n : Int) : St := ⟨[(5, I 0), (0, .one .nils), (1, I n), (4, Bo false)], h, []⟩
theorem hasn_loop (h : Heap) (n : Int) : lpK 17 Tryz.f17 18 0 h (hasN h n) = some (.exit 0, hasN h n) :=
  loop_fun (P := Tryz.prog) (C := cfg) (sc := runScope Tryz.prog cfg 18 h.length (cfg.live 17) 0) (N := 18) (n0 := h.length) (K := cfg.live 17) (c := loopAt Tryz.f17 0)
    (fun _ : Unit => hasN h n) (fun _ => True) (fun _ => 0) (fun _ => (.exit 0, hasN h n)) (fun _ _ => .inr ⟨by
      simp (disch := omega) [round_eq, hasN, Tryz.f17, lv17], nofun⟩) () trivial
theorem has_nil (h : Heap) (n : Int) : CX 17 [.one .nils, I n] h = some (Bo false, h, []) := by
  refine CI_of Tryz.func17 rfl 0 ?_
  have hk : cfg.keep 17 = 0 := rfl
  have e := hasn_loop h n
  simp [hasN, lpK, lv17, Tryz.f17] at e
  simp (disch := omega) [Tryz.f17, lv17, e, hk]

def PostOK (f : Fn) (m : Nat) : Prop := ∀ (h : Heap) (k : Nat) (vd : V) (done path : List Int) (id : Nat), OutV vd done → id < h.length → rowAt h id path.length = some (1, intsOf path) → (done ++ (path ++ [(k : Int)])).Nodup → RchL (f.blocks.map nextB) (done ++ (path ++ [(k : Int)])) → f.blocks.length ≤ path.length + m →
  ∃ r, CX 106 [.agg (encFn f), I (k : Nat), vd, .one (.sl id 1 path.length 0 path.length)] h = some (Sl (intsOf r), h, []) ∧ (r ++ path).Nodup ∧ RchL (f.blocks.map nextB) r

theorem p8w_loop (f : Fn) (hf : f.Fine) (m : Nat) (ih : PostOK f m) (h : Heap) (path : List Int) (k : Nat) (hR : Rch (f.blocks.map nextB) [0] (-1) k) (l : List Ins) (hl : f.blocks[k]? = some l) (hm : f.blocks.length ≤ path.length + m) (hpp : RchL (f.blocks.map nextB) path) (vo : V) (out : List Int) (hvo : OutV vo out)
    (h1 : (out ++ path).Nodup) (h2 : RchL (f.blocks.map nextB) out) :
    ∃ vo' out', OutV vo' out' ∧ (out' ++ path).Nodup ∧ RchL (f.blocks.map nextB) out' ∧ lpK 106 Tryz.f106 62 0 h (p8W h f path k 0 (nextB l) vo) = some (.exit 0, p8W h f path k (nextB l).length (nextB l) vo') := by
  have hedge := hf.edges.each (nextB l) (List.mem_map.2 ⟨l, List.mem_of_getElem? hl, rfl⟩)
  have hgd : (f.blocks.map nextB).getD k [] = nextB l := by simp [List.getD, hl]
  have hn := hf.len
  have key := loop_rel (P := Tryz.prog) (C := cfg) (sc := runScope Tryz.prog cfg 62 h.length (cfg.live 106) 0) (N := 62) (n0 := h.length) (K := cfg.live 106) (c := loopAt Tryz.f106 0)
    (fun s : Nat × V × List Int => p8W h f path k s.1 (nextB l) s.2.1) (fun s => s.1 ≤ (nextB l).length ∧ OutV s.2.1 s.2.2 ∧ (s.2.2 ++ path).Nodup ∧ RchL (f.blocks.map nextB) s.2.2) (fun s => (nextB l).length - s.1)
    (fun _ r => ∃ vo' out', OutV vo' out' ∧ (out' ++ path).Nodup ∧ RchL (f.blocks.map nextB) out' ∧ r = (.exit 0, p8W h f path k (nextB l).length (nextB l) vo')) ?_ (0, vo, out) ⟨Nat.zero_le _, hvo, h1, h2⟩
  · obtain ⟨r, e, vo', out', g0, g1, g2, rfl⟩ := key
    exact ⟨vo', out', g0, g1, g2, e⟩
  clear hvo h1 h2
  rintro ⟨i, vo, out⟩ ⟨j1, j0, j2, j3⟩
  simp only at j1 j0 j2 j3 ⊢
  have hnone : intsOf [] = [] := rfl
  rcases Nat.lt_or_ge i (nextB l).length with hlt | hge
  · have hltI : ((i : Nat) : Int) < (((nextB l).length : Nat) : Int) := by omega
    obtain ⟨x, hx⟩ : ∃ x, (nextB l)[i]? = some x := ⟨_, List.getElem?_eq_getElem hlt⟩
    have hxm := List.mem_of_getElem? hx
    obtain ⟨x0, xl⟩ := hedge.2 x hxm
    obtain ⟨n, rfl⟩ : ∃ n : Nat, x = (n : Int) := ⟨x.toNat, by omega⟩
    have hol := j3.len (List.nodup_append.1 j2).1
    have hpl := hpp.len (List.nodup_append.1 j2).2.1
    have hbl : (f.blocks.map nextB).length = f.blocks.length := by simp
    have hof : Fit out := by show _ ≤ _; omega
    have hpf : Fit path := by show _ ≤ _; omega
    have e1 := fun h => has h out hof ((n : Nat) : Int)
    have e2 := fun h => has h path hpf ((n : Nat) : Int)
    by_cases c1 : ((n : Nat) : Int) ∈ out
    · have c1B : out.contains ((n : Nat) : Int) = true := by simpa using c1
      rw [c1B] at e1
      refine .inl ⟨(i + 1, vo, out), ?_, ⟨hlt, j0, j2, j3⟩, by simp only; omega, fun r h => h⟩
      rcases j0 with rfl | ⟨rfl, rfl⟩ <;> first | (exfalso; exact List.not_mem_nil c1) | simp (disch := omega) [round_eq, p8W, encFn, Tryz.f106, lv106, hx, hlt, hltI, e1, e2, has_nil, wrap_i64, -getElem?_pos]
    · have c1B : out.contains ((n : Nat) : Int) = false := by simpa using c1
      rw [c1B] at e1
      by_cases c2 : ((n : Nat) : Int) ∈ path
      · have c2B : path.contains ((n : Nat) : Int) = true := by simpa using c2
        rw [c2B] at e2
        refine .inl ⟨(i + 1, vo, out), ?_, ⟨hlt, j0, j2, j3⟩, by simp only; omega, fun r h => h⟩
        rcases j0 with rfl | ⟨rfl, rfl⟩ <;> simp (disch := omega) [round_eq, p8W, encFn, Tryz.f106, lv106, hx, hlt, hltI, e1, e2, has_nil, wrap_i64, -getElem?_pos]
      · have c2B : path.contains ((n : Nat) : Int) = false := by simpa using c2
        rw [c2B] at e2
        have hRn : Rch (f.blocks.map nextB) [0] (-1) n := .step hR (by rw [hgd]; exact hxm) (by omega)
        have hnd : (out ++ (path ++ [((n : Nat) : Int)])).Nodup := by
          rw [← List.append_assoc, List.nodup_append]
          refine ⟨j2, by simp, fun a ha b hb => ?_⟩
          simp only [List.mem_singleton] at hb
          subst hb
          rintro rfl
          rcases List.mem_append.1 ha with ha | ha
          · exact c1 ha
          · exact c2 ha
        have hrl : RchL (f.blocks.map nextB) (out ++ (path ++ [((n : Nat) : Int)])) := j3.app (hpp.app fun x hx => by
          simp only [List.mem_singleton] at hx
          subst hx
          exact ⟨by omega, xl, by simpa using hRn⟩)
        obtain ⟨r, e3, g1, g2⟩ := ih (h ++ [some (.row 1 (intsOf path)), some (.row 5 [encFn f])]) n vo out path h.length j0 (by simp) (by simp [rowAt]) hnd hrl hm
        have q := qt106
        simp [Tryz.f106, quietFn, quietRegs] at q
        simp [encFn] at e3
        refine .inl ⟨(i + 1, Sl (intsOf r), r), ?_, ⟨hlt, .inl rfl, g1, g2⟩, by simp only; omega, fun r h => h⟩
        rcases j0 with rfl | ⟨rfl, rfl⟩ <;> (try rw [hnone] at e3) <;> simp (disch := omega) [round_eq, p8W, encFn, Tryz.f106, lv106, hx, hlt, hltI, e1, e2, has_nil, e3, q, wrap_i64, -getElem?_pos]
  · have : i = (nextB l).length := by omega
    subst this
    refine .inr ⟨(.exit 0, p8W h f path k (nextB l).length (nextB l) vo), ?_, nofun, vo, out, j0, j2, j3, rfl⟩
    rcases j0 with rfl | ⟨rfl, rfl⟩ <;>
    simp (disch := omega) [round_eq, p8W, encFn, Tryz.f106, lv106, -getElem?_pos]

theorem post_any (f : Fn) (hf : f.Fine) : ∀ m, PostOK f m
  | 0 => fun h k vd done path id _ _ _ hnd hrl hm => by
    have h1 := (hrl.right).len (List.nodup_append.1 hnd).2.1
    simp at h1
    omega
  | m + 1 => fun h k vd done path id hvd hid hrow hnd hrl hm => by
    have ih := post_any f hf m
    have hn := hf.len
    have hk := hrl (k : Int) (by simp)
    have hbl : (f.blocks.map nextB).length = f.blocks.length := by simp
    have hkb : k < f.blocks.length := by omega
    obtain ⟨l, hl⟩ : ∃ l, f.blocks[k]? = some l := ⟨_, List.getElem?_eq_getElem hkb⟩
    have e1 := fun h => next h f hf.ok hf.ended k l hl
    have hR : Rch (f.blocks.map nextB) [0] (-1) k := by simpa using hk.2.2
    have hnd2 : (done ++ (path ++ [(k : Int)])).Nodup := hnd
    obtain ⟨vo, out, g0, g1, g2, e2⟩ := p8w_loop f hf m ih h (path ++ [(k : Int)]) k hR l hl (by simp; omega) hrl.right vd done hvd hnd hrl.left
    have hpl := (hrl.right.left).len (List.nodup_append.1 (List.nodup_append.1 hnd).2.1).1
    have hol := g2.len (List.nodup_append.1 g1).1
    have hkk : cfg.keep 106 = 0 := rfl
    have hx : ∀ t, rowAt (h ++ t) id path.length = some (1, intsOf path) := fun t => by rw [← hrow]; unfold rowAt; rw [List.getElem?_append_left hid]
    simp [encFn] at e1
    simp [p8W, encFn, lpK, lv106, Tryz.f106, intsOf_snoc] at e2
    refine ⟨out ++ [(k : Int)], CI_of Tryz.func106 rfl 0 ?_, ?_, g2.app fun x hx => ?_⟩
    · have hone : intsOf [(k : Int)] = [[.int .i64 (k : Int)]] := rfl
      have hnone : intsOf [] = [] := rfl
      have hne : ∀ (x : Int) xs, ¬ intsOf (x :: xs) = [] := fun x xs => by simp [intsOf]
      rw [hbl] at hol hpl
      rcases g0 with rfl | ⟨rfl, rfl⟩ <;> rcases hvd with rfl | ⟨rfl, rfl⟩ <;> cases path <;> (try cases out) <;> simp only [List.length_nil, List.length_cons] at hx hpl hol <;> simp [hone, hnone] at e2 <;>
        simp (disch := omega) [hone, hnone, hne, encFn, Tryz.f106, lv106, hkk, e1, e2, hx, room_of, intsOf_snoc, wrap_i64, -getElem?_pos]
    · have := g1
      rw [List.append_assoc]
      have hp : ([(k : Int)] ++ path).Perm (path ++ [(k : Int)]) := List.perm_append_comm
      exact (hp.append_left out).nodup_iff.2 g1
    · simp only [List.mem_singleton] at hx
      subst hx
      exact ⟨by omega, by omega, by simpa using hR⟩
end Go.Proofs.YtkbdhjfjbkmkcaaGreat.Abs

/- Is each block reached, as the document tells it. -/
set_option linter.unusedSimpArgs false
set_option linter.unusedVariables false
namespace Go.Proofs.YtkbdhjfjbkmkcaaGreat.Abs
open Go Go.RowKit Go.Proofs

theorem post_top (h : Heap) (f : Fn) (hf : f.Fine) (h0 : 0 < f.blocks.length) : ∃ r, CX 106 [.agg (encFn f), I 0, .one .nils, .one .nils] h = some (Sl (intsOf r), h, []) ∧ r.Nodup ∧ RchL (f.blocks.map nextB) r := by
  have ih := post_any f hf f.blocks.length
  have hn := hf.len
  have hbl : (f.blocks.map nextB).length = f.blocks.length := by simp
  obtain ⟨l, hl⟩ : ∃ l, f.blocks[0]? = some l := ⟨_, List.getElem?_eq_getElem h0⟩
  have e1 := fun h => next h f hf.ok hf.ended 0 l hl
  have hR : Rch (f.blocks.map nextB) [0] (-1) 0 := .start (by simp) (by simp)
  have hr0 : RchL (f.blocks.map nextB) [((0 : Nat) : Int)] := fun x hx => by
    simp only [List.mem_singleton] at hx
    subst hx
    exact ⟨by omega, by omega, by simpa using hR⟩
  obtain ⟨vo, out, g0, g1, g2, e2⟩ := p8w_loop f hf f.blocks.length ih h [((0 : Nat) : Int)] 0 hR l hl (by simp) hr0 (.one .nils) [] (.inr ⟨rfl, rfl⟩) (by simp) (fun x hx => by simp at hx)
  have hol := g2.len (List.nodup_append.1 g1).1
  rw [hbl] at hol
  have hkk : cfg.keep 106 = 0 := rfl
  have hnone : intsOf [] = [] := rfl
  have hone : intsOf [0] = [[.int .i64 0]] := rfl
  have hne : ∀ (x : Int) xs, ¬ intsOf (x :: xs) = [] := fun x xs => by simp [intsOf]
  simp [encFn] at e1
  simp [p8W, encFn, lpK, lv106, Tryz.f106, hone, hnone] at e2
  refine ⟨out ++ [0], CI_of Tryz.func106 rfl 0 ?_, ?_, g2.app fun x hx => ?_⟩
  · rcases g0 with rfl | ⟨rfl, rfl⟩ <;> (try cases out) <;> simp only [List.length_nil, List.length_cons] at hol <;> (try simp [hone, hnone] at e2) <;>
      simp (disch := omega) [hone, hnone, hne, encFn, Tryz.f106, lv106, hkk, e1, e2, room_of, intsOf_snoc, wrap_i64, -getElem?_pos]
  · simpa using g1
  · simp only [List.mem_singleton] at hx
    subst hx
    exact ⟨by omega, by omega, by simpa using hR⟩

def orS (h : Heap) (l : List Int) (i : Int) (out : List Int) : St := ⟨[(3, Sl (intsOf l)), (5, I i), (4, .one (.sl h.length 1 out.length 0 out.length))], h ++ [some (.row 1 (intsOf out))], []⟩
theorem or_loop (h : Heap) (l : List Int) (hl : l.length ≤ 1000) : lpK 78 Tryz.f78 23 0 h (orS h l (l.length - 1) []) = some (.exit 0, orS h l (-1) l.reverse) := by
  have key := loop_fun (P := Tryz.prog) (C := cfg) (sc := runScope Tryz.prog cfg 23 h.length (cfg.live 78) 0) (N := 23) (n0 := h.length) (K := cfg.live 78) (c := loopAt Tryz.f78 0)
    (fun k : Nat => orS h l ((k : Int) - 1) (l.drop k).reverse) (fun k => k ≤ l.length) (fun k => k)
    (fun _ => (.exit 0, orS h l (-1) l.reverse)) ?_ l.length (Nat.le_refl _)
  · rw [List.drop_length] at key; exact key
  rintro k hk
  rcases Nat.eq_zero_or_pos k with rfl | hp
  · refine .inr ⟨?_, nofun⟩
    simp (disch := omega) [round_eq, orS, Tryz.f78, lv78, -getElem?_pos]
  · obtain ⟨j, rfl⟩ : ∃ j, k = j + 1 := ⟨k - 1, by omega⟩
    obtain ⟨x, hx⟩ : ∃ x, l[j]? = some x := ⟨_, List.getElem?_eq_getElem (by omega)⟩
    have hd : l.drop j = x :: l.drop (j + 1) := by
      rw [List.drop_eq_getElem_cons (by omega)]; rw [List.getElem?_eq_getElem (by omega)] at hx; cases hx; rfl
    have hj : j < l.length := by omega
    have hjI : (((j + 1 : Nat) : Int) - 1) = (j : Int) := by omega
    have hj0 : (0 : Int) ≤ ((j : Nat) : Int) := by omega
    refine .inl ⟨j, ?_, by omega, by omega, rfl⟩
    rw [hd, List.reverse_cons, hjI]
    simp (disch := omega) [round_eq, orS, Tryz.f78, lv78, hx, hj, hj0, room_of, intsOf_snoc, wrap_i64, -getElem?_pos]
theorem order8 (h : Heap) (f : Fn) (hf : f.Fine) (h0 : 0 < f.blocks.length) : ∃ r, CX 78 [.agg (encFn f)] h = some (Sl (intsOf r), h, []) ∧ r.Nodup ∧ RchL (f.blocks.map nextB) r := by
  have hn := hf.len
  have hbl : (f.blocks.map nextB).length = f.blocks.length := by simp
  obtain ⟨r, e1, g1, g2⟩ := post_top (h ++ [some (.row 5 [encFn f])]) f hf h0
  have hrl := g2.len g1
  have e2 := or_loop h r (by omega)
  have hkk : cfg.keep 78 = 0 := rfl
  simp [encFn] at e1
  simp [orS, lpK, lv78, Tryz.f78] at e2
  refine ⟨r.reverse, CI_of Tryz.func78 rfl 0 ?_, (List.reverse_perm r).nodup_iff.2 g1, fun x hx => g2 x (List.mem_reverse.1 hx)⟩
  simp (disch := omega) [encFn, Tryz.f78, lv78, hkk, e1, e2, wrap_i64, -getElem?_pos]
theorem reached8 (h : Heap) (f : Fn) (hf : f.Fine) (h0 : 0 < f.blocks.length) : ∃ b, CX 45 [.agg (encFn f)] h = some (Bo b, h, []) ∧ (b = true → (∀ v, v < f.blocks.length → Rch (f.blocks.map nextB) [0] (-1) v) ∧ prdB (f.blocks.map nextB) 0 f.blocks.length = []) := by
  have hn := hf.len
  have hbl : (f.blocks.map nextB).length = f.blocks.length := by simp
  have e1 := fun h => order8 h f hf h0
  obtain ⟨r, e1, g1, g2⟩ := order8 (h ++ [some (.row 5 [encFn f])]) f hf h0
  have hrl := g2.len g1
  have e2 := fun h => preds8 h f hf.ok hf.ended hn
  have hp0 := prd8_get f.blocks.length (f.blocks.map nextB) f.blocks.length 0 h0
  have hkk : cfg.keep 45 = 0 := rfl
  have q := qt45
  simp [Tryz.f45, quietFn, quietRegs] at q
  simp [encFn] at e1 e2
  generalize prd8 f.blocks.length (f.blocks.map nextB) f.blocks.length = rows at *
  have hp1 : 0 < rows.length := (List.getElem?_eq_some_iff.1 hp0).1
  by_cases hrn : r.length = f.blocks.length
  · have hrnI : ((r.length : Nat) : Int) = ((f.blocks.length : Nat) : Int) := by omega
    refine ⟨(prdB (f.blocks.map nextB) 0 f.blocks.length).isEmpty, CI_of Tryz.func45 rfl 0 ?_, fun hb => ⟨fun v hv => ?_, by simpa using hb⟩⟩
    · have hnz : ∀ n : Nat, ¬ ((n : Nat) : Int) + 1 = 0 := fun n => by omega
      generalize prdB (f.blocks.map nextB) 0 f.blocks.length = p0 at *
      cases p0 <;> simp (disch := omega) [encFn, Tryz.f45, lz45, hkk, e1, e2, hrn, hrnI, hp0, hp1, hnz, q, wrap_i64, -getElem?_pos]
    · by_cases hm : (v : Int) ∈ r
      · simpa using (g2 _ hm).2.2
      · have := nodup_len f.blocks.length ((v : Int) :: r) (by simp [hm, g1]) (fun x hx => by
          rcases List.mem_cons.1 hx with rfl | hx
          · exact ⟨by omega, by omega⟩
          · have := g2 x hx; exact ⟨this.1, by omega⟩)
        simp at this
        omega
  · have hrnI : ¬ ((r.length : Nat) : Int) = ((f.blocks.length : Nat) : Int) := by omega
    have hrnB : (((r.length : Nat) : Int) == ((f.blocks.length : Nat) : Int)) = false := by simp; omega
    refine ⟨false, CI_of Tryz.func45 rfl 0 ?_, nofun⟩
    simp (disch := omega) [encFn, Tryz.f45, lz45, hkk, e1, e2, hrn, hrnI, hrnB, q, wrap_i64, -getElem?_pos]
end Go.Proofs.YtkbdhjfjbkmkcaaGreat.Abs

/- Functions by their names, as the document tells it. -/
set_option linter.unusedSimpArgs false
set_option linter.unusedVariables false
namespace Go.Proofs.YtkbdhjfjbkmkcaaGreat.Abs
open Go Go.RowKit Go.Proofs

def nmI (s : List UInt8) (_ : Nat) (f : Fn) : Bool := f.name == s
def fnZ : Fn := ⟨[], [], 0, [], 0⟩
def encZ : List Leaf := [.str [], .nils, .int .i64 0, .nils, .int .i64 0]
def findF (p : List Fn) (s : List UInt8) : Option Fn := match findI (nmI s) 0 p with
  | some i => p[i]?
  | none => none
def fdS (h : Heap) (p : List Fn) (s : List UInt8) (i : Nat) (w : List Leaf) (b : Bool) : St :=
  ⟨[(6, I (i : Nat)), (2, .one (.ptr h.length 1 0 0)), (1, .one (.str s)), (4, .one (.ptr (h.length + 1) 1 0 0)), (5, Bo b)], h ++ [some (.row 1 [encProg p]), some (.row 5 [w])], []⟩
theorem fd_loop (h : Heap) (p : List Fn) (hp : Fit p) (s : List UInt8) :
    lpK 13 Tryz.f13 28 0 h (fdS h p s 0 encZ false) = some (match findI (nmI s) 0 p with | some i => (.ret, fdS h p s i (encFn (p.getD i fnZ)) true) | none => (.exit 0, fdS h p s p.length encZ false)) := by
  have hpf : p.length ≤ 17592186044416 := hp
  refine loop_search p (nmI s) (fun i => fdS h p s i encZ false) (fun i => (.ret, fdS h p s i (encFn (p.getD i fnZ)) true)) (.exit 0, fdS h p s p.length encZ false) ?_ ?_ ?_
  · intro i f hf hi hp _
    have hiI : ((i : Nat) : Int) < ((p.length : Nat) : Int) := by omega
    have hb : (f.name == s) = false := hp
    simp (disch := omega) [round_eq, fdS, encZ, encProg, encFn, Tryz.f13, lv13, hf, hi, hiI, hb, wrap_i64, -getElem?_pos]
  · intro i f hf hi hp _
    have hiI : ((i : Nat) : Int) < ((p.length : Nat) : Int) := by omega
    have hb : (f.name == s) = true := hp
    have hg : p.getD i fnZ = f := by simp [List.getD, hf]
    rw [hg]
    simp (disch := omega) [round_eq, fdS, encZ, encProg, encFn, Tryz.f13, lv13, hf, hi, hiI, hb, wrap_i64, -getElem?_pos]
  · intro _
    simp (disch := omega) [round_eq, fdS, encZ, encProg, encFn, Tryz.f13, lv13, -getElem?_pos]
theorem find11 (h : Heap) (p : List Fn) (hp : Fit p) (s : List UInt8) : CX 13 [.agg (encProg p), .one (.str s)] h = some (.tup [.agg (encFn ((findF p s).getD fnZ)), Bo (findF p s).isSome], h, []) := by
  have hk : cfg.keep 13 = 0 := rfl
  have e := fd_loop h p hp s
  refine CI_of Tryz.func13 rfl 0 ?_
  unfold findF
  simp [fdS, encProg, encZ, lpK, lv13, Tryz.f13] at e
  cases hh : findI (nmI s) 0 p with
  | none =>
    rw [hh] at e
    have hb0 : blksOf [] = [] := rfl
    simp (disch := omega) [Tryz.f13, lv13, hk, encProg, encZ, encFn, fnZ, e, hb0, -getElem?_pos]
  | some i =>
    rw [hh] at e
    obtain ⟨_, f, hf, _⟩ := findI_some hh
    simp only [Nat.sub_zero] at hf
    have hg : p.getD i fnZ = f := by simp [List.getD, hf]
    simp [hf, encFn] at e
    simp (disch := omega) [Tryz.f13, lv13, hk, encProg, encZ, encFn, fnZ, e, hf, -getElem?_pos]
theorem findF_some {p : List Fn} {s : List UInt8} {f : Fn} (h : findF p s = some f) : f ∈ p ∧ f.name = s := by
  unfold findF at h
  cases hh : findI (nmI s) 0 p with
  | none => rw [hh] at h; simp at h
  | some i =>
    rw [hh] at h
    obtain ⟨_, g, hg, h2, _⟩ := findI_some hh
    simp only [Nat.sub_zero] at hg
    simp only at h
    rw [hg] at h
    cases h
    exact ⟨List.mem_of_getElem? hg, by simpa [nmI] using h2⟩

/-! The names. -/
def Apart (p : List Fn) : Prop := ∀ (i k : Nat) f g, k < i → p[i]? = some f → p[k]? = some g → f.name ≠ g.name
def naS (h : Heap) (p : List Fn) (i : Nat) (v4 : V) (c a : Int) : St :=
  ⟨[(3, I (i : Nat)), (1, .one (.ptr h.length 1 0 0)), (4, v4), (2, .one (.ptr (h.length + 1) 1 0 0)), (1004, .junk)], h ++ [some (.row 1 [encProg p]), some (.row 2 [[.int .i64 c, .int .i64 a]])], []⟩
def naB (p : List Fn) (f : Fn) (k : Nat) (_ : Fn) : Bool := match p[k]? with
  | some g => f.name == g.name
  | none => false
theorem na_in (h : Heap) (p : List Fn) (hp : Fit p) (i : Nat) (f : Fn) (hf : p[i]? = some f) :
    lpK 25 Tryz.f25 54 1 h (naS h p i (I (0 : Nat)) 0 0) = some (match findI (naB p f) 0 (p.take i) with | some k => (.ret, naS h p i (I (k : Nat)) 5 f.at_) | none => (.exit 2, naS h p i (I (i : Nat)) 0 0)) := by
  have hpf : p.length ≤ 17592186044416 := hp
  have hil := (List.getElem?_eq_some_iff.1 hf).1
  have htl : (p.take i).length = i := by simp; omega
  have q := qt25
  simp [Tryz.f25, quietFn, quietRegs] at q
  refine loop_search (p.take i) (naB p f) (fun k => naS h p i (I (k : Nat)) 0 0) (fun k => (.ret, naS h p i (I (k : Nat)) 5 f.at_)) (.exit 2, naS h p i (I (i : Nat)) 0 0) ?_ ?_ ?_
  · intro k g hg hi hb _
    rw [htl] at hi
    have hg' : p[k]? = some g := by rw [List.getElem?_take_of_lt hi] at hg; exact hg
    have hkI : ((k : Nat) : Int) < ((i : Nat) : Int) := by omega
    have hb : (f.name == g.name) = false := by simpa only [naB, hg'] using hb
    have hkl : k < p.length := by omega
    simp (disch := omega) [round_eq, naS, encProg, encFn, Tryz.f25, lv25, hf, hil, hg', hkl, hi, hkI, hb, q, wrap_i64, -getElem?_pos]
  · intro k g hg hi hb _
    rw [htl] at hi
    have hg' : p[k]? = some g := by rw [List.getElem?_take_of_lt hi] at hg; exact hg
    have hkI : ((k : Nat) : Int) < ((i : Nat) : Int) := by omega
    have hb : (f.name == g.name) = true := by simpa only [naB, hg'] using hb
    have hkl : k < p.length := by omega
    simp (disch := omega) [round_eq, naS, encProg, encFn, Tryz.f25, lv25, hf, hil, hg', hkl, hi, hkI, hb, q, wrap_i64, -getElem?_pos]
  · intro _
    rw [htl]
    simp (disch := omega) [round_eq, naS, encProg, encFn, Tryz.f25, lv25, -getElem?_pos]
theorem na_out (h : Heap) (p : List Fn) (hp : Fit p) :
    ∃ r, lpK 25 Tryz.f25 54 0 h (naS h p 0 .junk 0 0) = some r ∧ ((∃ (i : Nat) (v4 : V) (a : Int), r = (.ret, naS h p i v4 5 a)) ∨ (r = (.exit 0, naS h p p.length .junk 0 0) ∧ Apart p)) := by
  have hpf : p.length ≤ 17592186044416 := hp
  have key := loop_rel (P := Tryz.prog) (C := cfg) (sc := runScope Tryz.prog cfg 54 h.length (cfg.live 25) 0) (N := 54) (n0 := h.length) (K := cfg.live 25) (c := loopAt Tryz.f25 0)
    (fun i : Nat => naS h p i .junk 0 0) (fun i => i ≤ p.length ∧ ∀ (j k : Nat) f g, j < i → k < j → p[j]? = some f → p[k]? = some g → f.name ≠ g.name) (fun i => p.length - i)
    (fun _ r => (∃ (i : Nat) (v4 : V) (a : Int), r = (.ret, naS h p i v4 5 a)) ∨ (r = (.exit 0, naS h p p.length .junk 0 0) ∧ Apart p)) ?_ 0 ⟨Nat.zero_le _, fun j k f g hj => by omega⟩
  · exact key
  rintro i ⟨hi, hall⟩
  rcases Nat.lt_or_ge i p.length with hlt | hge
  · have hltI : ((i : Nat) : Int) < ((p.length : Nat) : Int) := by omega
    obtain ⟨f, hf⟩ : ∃ f, p[i]? = some f := ⟨_, List.getElem?_eq_getElem hlt⟩
    have e := na_in h p hp i f hf
    simp [naS, encProg, lpK, lv25, Tryz.f25] at e
    cases hh : findI (naB p f) 0 (p.take i) with
    | some k =>
      rw [hh] at e
      refine .inr ⟨(.ret, naS h p i (I (k : Nat)) 5 f.at_), ?_, nofun, .inl ⟨i, _, _, rfl⟩⟩
      simp (disch := omega) [round_eq, naS, encProg, Tryz.f25, lv25, hlt, hltI, e, wrap_i64, -getElem?_pos]
    | none =>
      rw [hh] at e
      refine .inl ⟨i + 1, ?_, ⟨hlt, fun j k f' g hj hk hf' hg => ?_⟩, by omega, fun r h => h⟩
      · simp (disch := omega) [round_eq, naS, encProg, Tryz.f25, lv25, hlt, hltI, e, wrap_i64, -getElem?_pos]
      · rcases Nat.lt_or_ge j i with hji | hji
        · exact hall j k f' g hji hk hf' hg
        · obtain rfl : j = i := by omega
          rw [hf] at hf'; cases hf'
          have := findI_none.1 hh k g (by rw [List.getElem?_take_of_lt hk]; exact hg)
          simp only [Nat.zero_add, naB, hg] at this
          simpa using this
  · have : i = p.length := by omega
    subst this
    refine .inr ⟨_, ?_, ?_, .inr ⟨rfl, fun j k f g hk hf hg => hall j k f g (List.getElem?_eq_some_iff.1 hf).1 hk hf hg⟩⟩
    · simp (disch := omega) [round_eq, naS, encProg, Tryz.f25, lv25, -getElem?_pos]
    · nofun
def mainN : List UInt8 := [109, 97, 105, 110]
theorem names11 (h : Heap) (p : List Fn) (hp : POk p) : ∃ c a : Int, CX 25 [.agg (encProg p)] h = some (.agg [.int .i64 c, .int .i64 a], h, []) ∧
    (c = 0 → Apart p ∧ ∃ f, findF p mainN = some f ∧ f.params.contains 2 = false) := by
  have hk : cfg.keep 25 = 0 := rfl
  obtain ⟨r, e, hr⟩ := na_out h p hp.fit
  rcases hr with ⟨i, v4, a, rfl⟩ | ⟨rfl, h1⟩
  · refine ⟨5, a, CI_of Tryz.func25 rfl 0 ?_, fun h => by simp at h⟩
    simp [naS, encProg, lpK, lv25, Tryz.f25] at e
    simp (disch := omega) [Tryz.f25, lv25, hk, encProg, e, -getElem?_pos]
  · simp [naS, encProg, lpK, lv25, Tryz.f25] at e
    have e2 := fun h => find11 h p hp.fit mainN
    simp [encProg, mainN] at e2
    cases hm : findF p [109, 97, 105, 110] with
    | none =>
      rw [hm] at e2
      refine ⟨12, 0, CI_of Tryz.func25 rfl 0 ?_, fun h => by simp at h⟩
      simp [fnZ, encFn] at e2
      simp (disch := omega) [Tryz.f25, lv25, hk, encProg, e, e2, -getElem?_pos]
    | some f =>
      rw [hm] at e2
      have hfp := (hp.each f (findF_some hm).1).params
      have e3 := fun h => has h f.params hfp 2
      cases hc : f.params.contains 2 with
      | true =>
        rw [hc] at e3
        refine ⟨13, f.at_, CI_of Tryz.func25 rfl 0 ?_, fun h => by simp at h⟩
        simp [encFn] at e2
        simp (disch := omega) [Tryz.f25, lv25, hk, encProg, e, e2, e3, -getElem?_pos]
      | false =>
        rw [hc] at e3
        refine ⟨0, 0, CI_of Tryz.func25 rfl 0 ?_, fun _ => ⟨h1, f, hm, hc⟩⟩
        simp [encFn] at e2
        simp (disch := omega) [Tryz.f25, lv25, hk, encProg, e, e2, e3, -getElem?_pos]
end Go.Proofs.YtkbdhjfjbkmkcaaGreat.Abs

/- Where a value is made, as the document tells it. -/
set_option linter.unusedSimpArgs false
set_option linter.unusedVariables false
namespace Go.Proofs.YtkbdhjfjbkmkcaaGreat.Abs
open Go Go.RowKit Go.Proofs

def mkI (id : Int) (_ : Nat) (x : Ins) : Bool := x.id == id && makesF x.op x.ty != 0
def mdL (block at_ k : Nat) (l : List Ins) : List Ins := if k < block then l else l.take at_
def kndAt (l : List Ins) (i : Nat) : Int := match l[i]? with
  | some x => makesF x.op x.ty
  | none => 0
theorem kndAt_of {l : List Ins} {i : Nat} {x : Ins} (h : l[i]? = some x) : kndAt l i = makesF x.op x.ty := by unfold kndAt; rw [h]
def madeG (id : Int) (block at_ : Nat) : Nat → List (List Ins) → Option (Nat × Nat × Int)
  | _, [] => none
  | k, l :: ls => if k ≤ block then match findI (mkI id) 0 (mdL block at_ k l) with
      | some i => some (k, i, kndAt l i)
      | none => madeG id block at_ (k + 1) ls
    else none
def plcL : Option (Nat × Int × Int) → List Leaf
  | none => [.int .i64 0, .int .i64 0, .int .i64 0, .bool false]
  | some (b, a, k) => [.int .i64 (b : Nat), .int .i64 a, .int .i64 k, .bool true]
def madeF (f : Fn) (id : Int) (block at_ : Nat) : Option (Nat × Int × Int) :=
  if 0 ≤ id ∧ id < f.params.length then some (0, -1, f.params.getD id.toNat 0) else (madeG id block at_ 0 f.blocks).map fun r => (r.1, (r.2.1 : Int), r.2.2)

def mdS (h : Heap) (f : Fn) (id : Int) (block at_ k : Nat) (v10 : V) (w : List Leaf) : St :=
  ⟨[(1, I id), (4, .one (.ptr h.length 1 0 0)), (8, .one (.ptr (h.length + 1) 1 0 0)), (9, I (k : Nat)), (2, I (block : Nat)), (10, v10), (3, I (at_ : Nat)), (1010, .junk)], h ++ [some (.row 5 [encFn f]), some (.row 4 [w])], []⟩
theorem md_in (h : Heap) (f : Fn) (hf : f.Ok) (id : Int) (block at_ k : Nat) (hkb : k ≤ block) (l : List Ins) (hl : f.blocks[k]? = some l) :
    lpK 32 Tryz.f32 82 1 h (mdS h f id block at_ k (I (0 : Nat)) (plcL none)) = some (match findI (mkI id) 0 (mdL block at_ k l) with
      | some i => (.ret, mdS h f id block at_ k (I (i : Nat)) (plcL (some (k, (i : Int), kndAt l i)))) | none => (.exit 2, mdS h f id block at_ k (I ((mdL block at_ k l).length : Nat)) (plcL none))) := by
  have hkl := (List.getElem?_eq_some_iff.1 hl).1
  have hlf := hf.code l (List.mem_of_getElem? hl)
  have hll : l.length ≤ 17592186044416 := hlf
  have hbf : f.blocks.length ≤ 17592186044416 := hf.blocks
  refine loop_search (mdL block at_ k l) (mkI id) (fun i => mdS h f id block at_ k (I (i : Nat)) (plcL none)) (fun i => (.ret, mdS h f id block at_ k (I (i : Nat)) (plcL (some (k, (i : Int), kndAt l i))))) (.exit 2, mdS h f id block at_ k (I ((mdL block at_ k l).length : Nat)) (plcL none)) ?_ ?_ ?_
  · intro i x hx hi hp _
    have hlen : (mdL block at_ k l).length ≤ l.length := by unfold mdL; split <;> simp; omega
    have hc : l[i]? = some x ∧ (k < block ∨ i < at_) := by
      unfold mdL at hx hi
      split at hx
      · exact ⟨hx, .inl (by assumption)⟩
      · rename_i hn
        rw [if_neg hn] at hi
        have : i < at_ := by simp at hi; omega
        exact ⟨by rw [List.getElem?_take_of_lt this] at hx; exact hx, .inr this⟩
    obtain ⟨hx', hor⟩ := hc
    have hil : i < l.length := by omega
    have hilI : ((i : Nat) : Int) < ((l.length : Nat) : Int) := by omega
    have e2 := fun h => makes5 h x.op x rfl
    simp [encIns] at e2
    simp only [mkI] at hp
    by_cases hid : x.id = id
    · have hidB : (x.id == id) = true := by simp [hid]
      rw [hidB] at hp
      have hm : makesF x.op x.ty = 0 := by simpa using hp
      subst hid
      rw [hm] at e2
      by_cases hlt : k < block
      · have hltI : ((k : Nat) : Int) < ((block : Nat) : Int) := by omega
        simp (disch := omega) [round_eq, mdS, plcL, encFn, encIns, Tryz.f32, lv32, hl, hkl, hx', hil, hilI, hlt, hltI, hidB, e2, wrap_i64, -getElem?_pos]
      · have hltI : ¬ ((k : Nat) : Int) < ((block : Nat) : Int) := by omega
        have hia : i < at_ := by omega
        have hiaI : ((i : Nat) : Int) < ((at_ : Nat) : Int) := by omega
        simp (disch := omega) [round_eq, mdS, plcL, encFn, encIns, Tryz.f32, lv32, hl, hkl, hx', hil, hilI, hlt, hltI, hia, hiaI, hidB, e2, wrap_i64, -getElem?_pos]
    · have hidB : (x.id == id) = false := by simp [hid]
      by_cases hlt : k < block
      · have hltI : ((k : Nat) : Int) < ((block : Nat) : Int) := by omega
        simp (disch := omega) [round_eq, mdS, plcL, encFn, encIns, Tryz.f32, lv32, hl, hkl, hx', hil, hilI, hlt, hltI, hid, hidB, e2, wrap_i64, -getElem?_pos]
      · have hltI : ¬ ((k : Nat) : Int) < ((block : Nat) : Int) := by omega
        have hia : i < at_ := by omega
        have hiaI : ((i : Nat) : Int) < ((at_ : Nat) : Int) := by omega
        simp (disch := omega) [round_eq, mdS, plcL, encFn, encIns, Tryz.f32, lv32, hl, hkl, hx', hil, hilI, hlt, hltI, hia, hiaI, hid, hidB, e2, wrap_i64, -getElem?_pos]
  · intro i x hx hi hp _
    have hlen : (mdL block at_ k l).length ≤ l.length := by unfold mdL; split <;> simp; omega
    have hc : l[i]? = some x ∧ (k < block ∨ i < at_) := by
      unfold mdL at hx hi
      split at hx
      · exact ⟨hx, .inl (by assumption)⟩
      · rename_i hn
        rw [if_neg hn] at hi
        have : i < at_ := by simp at hi; omega
        exact ⟨by rw [List.getElem?_take_of_lt this] at hx; exact hx, .inr this⟩
    obtain ⟨hx', hor⟩ := hc
    have hil : i < l.length := by omega
    have hilI : ((i : Nat) : Int) < ((l.length : Nat) : Int) := by omega
    have e2 := fun h => makes5 h x.op x rfl
    simp [encIns] at e2
    simp only [mkI, Bool.and_eq_true] at hp
    obtain ⟨hidB, hmB⟩ := hp
    have hid : x.id = id := by simpa using hidB
    subst hid
    have hm0 : ¬ makesF x.op x.ty = 0 := by simpa using hmB
    rw [kndAt_of hx']
    generalize makesF x.op x.ty = mk at *
    by_cases hlt : k < block
    · have hltI : ((k : Nat) : Int) < ((block : Nat) : Int) := by omega
      simp (disch := omega) [round_eq, mdS, plcL, encFn, encIns, Tryz.f32, lv32, hl, hkl, hx', hil, hilI, hlt, hltI, hidB, hmB, hm0, e2, wrap_i64, -getElem?_pos]
    · have hltI : ¬ ((k : Nat) : Int) < ((block : Nat) : Int) := by omega
      have hia : i < at_ := by omega
      have hiaI : ((i : Nat) : Int) < ((at_ : Nat) : Int) := by omega
      simp (disch := omega) [round_eq, mdS, plcL, encFn, encIns, Tryz.f32, lv32, hl, hkl, hx', hil, hilI, hlt, hltI, hia, hiaI, hidB, hmB, hm0, e2, wrap_i64, -getElem?_pos]
  · intro _
    by_cases hlt : k < block
    · have hltI : ((k : Nat) : Int) < ((block : Nat) : Int) := by omega
      have hd : mdL block at_ k l = l := by unfold mdL; rw [if_pos hlt]
      rw [hd]
      simp (disch := omega) [round_eq, mdS, plcL, encFn, Tryz.f32, lv32, hl, hkl, hlt, hltI, -getElem?_pos]
    · have hltI : ¬ ((k : Nat) : Int) < ((block : Nat) : Int) := by omega
      have hd : mdL block at_ k l = l.take at_ := by unfold mdL; rw [if_neg hlt]
      rw [hd]
      rcases Nat.lt_or_ge at_ l.length with ha | ha
      · have hm : (l.take at_).length = at_ := by simp; omega
        have haI : ((at_ : Nat) : Int) < ((l.length : Nat) : Int) := by omega
        rw [hm]
        simp (disch := omega) [round_eq, mdS, plcL, encFn, Tryz.f32, lv32, hl, hkl, hlt, hltI, ha, haI, -getElem?_pos]
      · have hm : (l.take at_).length = l.length := by simp; omega
        rw [hm]
        simp (disch := omega) [round_eq, mdS, plcL, encFn, Tryz.f32, lv32, hl, hkl, hlt, hltI, -getElem?_pos]
theorem md_out (h : Heap) (f : Fn) (hf : f.Ok) (id : Int) (block at_ : Nat) :
    ∃ (k : Nat) (v10 : V), lpK 32 Tryz.f32 82 0 h (mdS h f id block at_ 0 .junk (plcL none)) = some (match madeG id block at_ 0 f.blocks with
      | some r => (.ret, mdS h f id block at_ k v10 (plcL (some (r.1, (r.2.1 : Int), r.2.2)))) | none => (.exit 0, mdS h f id block at_ k v10 (plcL none))) := by
  have hbf : f.blocks.length ≤ 17592186044416 := hf.blocks
  have key := loop_rel (P := Tryz.prog) (C := cfg) (sc := runScope Tryz.prog cfg 82 h.length (cfg.live 32) 0) (N := 82) (n0 := h.length) (K := cfg.live 32) (c := loopAt Tryz.f32 0)
    (fun k : Nat => mdS h f id block at_ k .junk (plcL none)) (fun k => k ≤ f.blocks.length) (fun k => f.blocks.length - k)
    (fun k0 r => ∃ (k : Nat) (v10 : V), r = match madeG id block at_ k0 (f.blocks.drop k0) with
      | some r => (.ret, mdS h f id block at_ k v10 (plcL (some (r.1, (r.2.1 : Int), r.2.2)))) | none => (.exit 0, mdS h f id block at_ k v10 (plcL none))) ?_ 0 (Nat.zero_le _)
  · obtain ⟨r, e, k, v10, rfl⟩ := key
    exact ⟨k, v10, e⟩
  intro k hk
  rcases Nat.lt_or_ge k f.blocks.length with hlt | hge
  · have hltI : ((k : Nat) : Int) < ((f.blocks.length : Nat) : Int) := by omega
    obtain ⟨l, hl⟩ : ∃ l, f.blocks[k]? = some l := ⟨_, List.getElem?_eq_getElem hlt⟩
    have hd : f.blocks.drop k = l :: f.blocks.drop (k + 1) := by
      rw [List.drop_eq_getElem_cons hlt]; rw [List.getElem?_eq_getElem hlt] at hl; cases hl; rfl
    rw [hd, madeG]
    by_cases hkb : k ≤ block
    · have hkbI : ((k : Nat) : Int) ≤ ((block : Nat) : Int) := by omega
      rw [if_pos hkb]
      have e := md_in h f hf id block at_ k hkb l hl
      simp [mdS, plcL, encFn, lpK, lv32, Tryz.f32] at e
      cases hh : findI (mkI id) 0 (mdL block at_ k l) with
      | some i =>
        rw [hh] at e
        refine .inr ⟨_, ?_, ?_, k, I (i : Nat), rfl⟩
        · simp only
          simp (disch := omega) [round_eq, mdS, plcL, encFn, Tryz.f32, lv32, hlt, hltI, hkb, hkbI, e, wrap_i64, -getElem?_pos]
        · nofun
      | none =>
        rw [hh] at e
        refine .inl ⟨k + 1, ?_, hlt, by omega, fun r h => h⟩
        simp (disch := omega) [round_eq, mdS, plcL, encFn, Tryz.f32, lv32, hlt, hltI, hkb, hkbI, e, wrap_i64, -getElem?_pos]
    · have hkbI : ¬ ((k : Nat) : Int) ≤ ((block : Nat) : Int) := by omega
      rw [if_neg hkb]
      refine .inr ⟨_, ?_, ?_, k, .junk, rfl⟩
      · simp (disch := omega) [round_eq, mdS, plcL, encFn, Tryz.f32, lv32, hlt, hltI, hkb, hkbI, wrap_i64, -getElem?_pos]
      · nofun
  · have : k = f.blocks.length := by omega
    subst this
    rw [List.drop_length, madeG]
    refine .inr ⟨_, ?_, ?_, f.blocks.length, .junk, rfl⟩
    · simp (disch := omega) [round_eq, mdS, plcL, encFn, Tryz.f32, lv32, -getElem?_pos]
    · nofun
theorem made11 (h : Heap) (f : Fn) (hf : f.Ok) (id : Int) (block at_ : Nat) : CX 32 [.agg (encFn f), I id, I (block : Nat), I (at_ : Nat)] h = some (.agg (plcL (madeF f id block at_)), h, []) := by
  have hk : cfg.keep 32 = 0 := rfl
  refine CI_of Tryz.func32 rfl 0 ?_
  obtain ⟨k, v10, e⟩ := md_out h f hf id block at_
  simp [mdS, plcL, encFn, lpK, lv32, Tryz.f32] at e
  have hpf : f.params.length ≤ 17592186044416 := hf.params
  unfold madeF
  by_cases h0 : 0 ≤ id
  · by_cases h1 : id < f.params.length
    · rw [if_pos ⟨h0, h1⟩]
      obtain ⟨n, rfl⟩ : ∃ n : Nat, id = (n : Int) := ⟨id.toNat, by omega⟩
      have hn : n < f.params.length := by omega
      obtain ⟨t, ht⟩ : ∃ t, f.params[n]? = some t := ⟨_, List.getElem?_eq_getElem hn⟩
      have hg : f.params.getD (n : Int).toNat 0 = t := by simp [List.getD, ht]
      rw [hg]
      simp (disch := omega) [Tryz.f32, lv32, hk, plcL, encFn, h0, h1, ht, hn, -getElem?_pos]
    · rw [if_neg (fun hh => h1 hh.2)]
      cases hh : madeG id block at_ 0 f.blocks <;> rw [hh] at e <;> simp (disch := omega) [Tryz.f32, lv32, hk, plcL, encFn, h0, h1, e, -getElem?_pos]
  · rw [if_neg (fun hh => h0 hh.1)]
    cases hh : madeG id block at_ 0 f.blocks <;> rw [hh] at e <;> simp (disch := omega) [Tryz.f32, lv32, hk, plcL, encFn, h0, e, -getElem?_pos]
end Go.Proofs.YtkbdhjfjbkmkcaaGreat.Abs

/- What is wrong with what an instruction makes, as the document tells it. -/
set_option linter.unusedSimpArgs false
set_option linter.unusedVariables false
namespace Go.Proofs.YtkbdhjfjbkmkcaaGreat.Abs
open Go Go.RowKit Go.Proofs

def laterB (x : Ins) : Bool := x.op == 23 || (x.op == 24 || (x.op == 25 || (x.op == 21 && x.n != 0)))
theorem later11 (h : Heap) (x : Ins) : CX 81 [.agg (encIns x)] h = some (Bo (laterB x), h, []) := by
  have hk : cfg.keep 81 = 0 := rfl
  refine CI_of Tryz.func81 rfl 0 ?_
  obtain ⟨op, id, n, ty, args, to, name, at_⟩ := x
  unfold laterB
  by_cases h1 : op = 23
  · subst h1
    simp (disch := omega) [Tryz.f81, lz81, hk, encIns, -getElem?_pos]
  · have h1B : (op == 23) = false := by simp [h1]
    by_cases h2 : op = 24
    · subst h2
      simp (disch := omega) [Tryz.f81, lz81, hk, encIns, -getElem?_pos]
    · have h2B : (op == 24) = false := by simp [h2]
      by_cases h3 : op = 25
      · subst h3
        simp (disch := omega) [Tryz.f81, lz81, hk, encIns, -getElem?_pos]
      · have h3B : (op == 25) = false := by simp [h3]
        by_cases h4 : op = 21
        · subst h4
          cases hn : n != 0 <;> simp (disch := omega) [Tryz.f81, lz81, hk, encIns, hn, -getElem?_pos]
        · have h4B : (op == 21) = false := by simp [h4]
          simp (disch := omega) [Tryz.f81, lz81, hk, encIns, h1, h1B, h2, h2B, h3, h3B, h4, h4B, -getElem?_pos]

/-! Phis. -/
def opAt (l : List Ins) (i : Nat) : Int := match l[i]? with
  | some x => x.op
  | none => 0
def phiB (l : List Ins) (i : Nat) (x : Ins) (from_ : List Int) : Bool := (decide (i = 0) || opAt l (i - 1) == 20) && (x.to.length == from_.length && from_.all fun b => x.to.contains b)
def phS (h : Heap) (x : Ins) (from_ : List Int) (n : Nat) (b : Bool) : St := ⟨[(7, .one (.ptr h.length 1 0 0)), (8, Sl (intsOf from_)), (9, I (n : Nat)), (6, Bo b)], h ++ [some (.row 8 [encIns x])], []⟩
def notIn (x : Ins) (_ : Nat) (b : Int) : Bool := !(x.to.contains b)
theorem ph_loop (h : Heap) (x : Ins) (hx : x.Ok) (from_ : List Int) (hf : Fit from_) :
    lpK 80 Tryz.f80 58 0 h (phS h x from_ 0 false) = some (match findI (notIn x) 0 from_ with | some i => (.ret, phS h x from_ i false) | none => (.exit 0, phS h x from_ from_.length false)) := by
  have hl : from_.length ≤ 17592186044416 := hf
  have q := qt80
  simp [Tryz.f80, quietFn, quietRegs] at q
  refine loop_search from_ (notIn x) (fun n => phS h x from_ n false) (fun i => (.ret, phS h x from_ i false)) (.exit 0, phS h x from_ from_.length false) ?_ ?_ ?_
  · intro i b hb hi hp _
    have hiI : ((i : Nat) : Int) < ((from_.length : Nat) : Int) := by omega
    have e1 := fun h => has h x.to hx.to b
    have hc : x.to.contains b = true := by simpa only [notIn, Bool.not_eq_false'] using hp
    rw [hc] at e1
    simp (disch := omega) [round_eq, phS, encIns, Tryz.f80, lv80, hb, hi, hiI, e1, q, wrap_i64, -getElem?_pos]
  · intro i b hb hi hp _
    have hiI : ((i : Nat) : Int) < ((from_.length : Nat) : Int) := by omega
    have e1 := fun h => has h x.to hx.to b
    have hc : x.to.contains b = false := by simpa only [notIn, Bool.not_eq_true'] using hp
    rw [hc] at e1
    simp (disch := omega) [round_eq, phS, encIns, Tryz.f80, lv80, hb, hi, hiI, e1, q, wrap_i64, -getElem?_pos]
  · intro _
    simp (disch := omega) [round_eq, phS, encIns, Tryz.f80, lv80, -getElem?_pos]
theorem phi_no (h : Heap) (f : Fn) (hf : f.Ok) (he : Ended f) (hn : f.blocks.length ≤ 1000) (k : Nat) (l : List Ins) (hl : f.blocks[k]? = some l) (i : Nat) (x : Ins) (hx : l[i]? = some x) (hi : 0 < i) (hop : opAt l (i - 1) ≠ 20) :
    CX 80 [.agg (encFn f), I (k : Nat), I (i : Nat)] h = some (Bo false, h, []) := by
  have hk : cfg.keep 80 = 0 := rfl
  refine CI_of Tryz.func80 rfl 0 ?_
  have hkl := (List.getElem?_eq_some_iff.1 hl).1
  have hil := (List.getElem?_eq_some_iff.1 hx).1
  have hlf : l.length ≤ 17592186044416 := hf.code l (List.mem_of_getElem? hl)
  have hiI : (0 : Int) < ((i : Nat) : Int) := by omega
  obtain ⟨j, rfl⟩ : ∃ j, i = j + 1 := ⟨i - 1, by omega⟩
  have hj : j < l.length := by omega
  have hj1 : (((j + 1 : Nat) : Int) - 1) = (j : Int) := by omega
  obtain ⟨y, hy⟩ : ∃ y, l[j]? = some y := ⟨_, List.getElem?_eq_getElem hj⟩
  have hyo : y.op ≠ 20 := by
    have : opAt l j = y.op := by unfold opAt; rw [hy]
    rw [← this]; simpa using hop
  have hyB : (y.op != 20) = true := by simp [hyo]
  have hji : (0 : Int) < ((j : Nat) : Int) + 1 := by omega
  have hj0 : (0 : Int) ≤ ((j : Nat) : Int) + 1 := by omega
  simp (disch := omega) [Tryz.f80, lv80, hk, encFn, encIns, hl, hkl, hx, hil, hiI, hji, hj0, hj1, hj, hy, hyo, hyB, wrap_i64, -getElem?_pos]
theorem phi11 (h : Heap) (f : Fn) (hf : f.Ok) (he : Ended f) (hn : f.blocks.length ≤ 1000) (k : Nat) (l : List Ins) (hl : f.blocks[k]? = some l) (i : Nat) (x : Ins) (hx : l[i]? = some x) :
    CX 80 [.agg (encFn f), I (k : Nat), I (i : Nat)] h = some (Bo (phiB l i x (prdB (f.blocks.map nextB) k f.blocks.length)), h, []) := by
  by_cases hno : 0 < i ∧ opAt l (i - 1) ≠ 20
  · rw [phi_no h f hf he hn k l hl i x hx hno.1 hno.2]
    have h0 : decide (i = 0) = false := by simp; omega
    have h1 : (opAt l (i - 1) == 20) = false := by simp [hno.2]
    unfold phiB
    rw [h0, h1]
    rfl
  have hok : (decide (i = 0) || opAt l (i - 1) == 20) = true := by
    by_cases h0 : i = 0
    · simp [h0]
    · have : opAt l (i - 1) = 20 := by
        refine Classical.byContradiction fun hc => hno ⟨by omega, hc⟩
      simp [this]
  have hphi : phiB l i x (prdB (f.blocks.map nextB) k f.blocks.length) = (x.to.length == (prdB (f.blocks.map nextB) k f.blocks.length).length && (prdB (f.blocks.map nextB) k f.blocks.length).all fun b => x.to.contains b) := by unfold phiB; rw [hok, Bool.true_and]
  rw [hphi]
  have hk : cfg.keep 80 = 0 := rfl
  refine CI_of Tryz.func80 rfl 0 ?_
  have hkl := (List.getElem?_eq_some_iff.1 hl).1
  have hil := (List.getElem?_eq_some_iff.1 hx).1
  have hlf : l.length ≤ 17592186044416 := hf.code l (List.mem_of_getElem? hl)
  have hxo := hf.each l (List.mem_of_getElem? hl) x (List.mem_of_getElem? hx)
  have e1 := fun h => preds8 h f hf he hn
  have hp0 := prd8_get f.blocks.length (f.blocks.map nextB) f.blocks.length k hkl
  have hpl := prdB_len (f.blocks.map nextB) k f.blocks.length
  simp [encFn] at e1
  generalize prd8 f.blocks.length (f.blocks.map nextB) f.blocks.length = rows at *
  generalize prdB (f.blocks.map nextB) k f.blocks.length = from_ at *
  have hrl : k < rows.length := (List.getElem?_eq_some_iff.1 hp0).1
  have e2 := ph_loop h x hxo from_ (by show _ ≤ _; omega)
  simp [phS, encIns, lpK, lv80, Tryz.f80] at e2
  have hall : (from_.all fun b => x.to.contains b) = (findI (notIn x) 0 from_).isNone := by
    cases hh : findI (notIn x) 0 from_ with
    | none =>
      have := findI_none.1 hh
      simp only [Option.isNone_none, List.all_eq_true]
      intro b hb
      obtain ⟨j, hj⟩ := List.getElem?_of_mem hb
      simpa [notIn] using this j b hj
    | some j =>
      obtain ⟨_, b, hb, h2, _⟩ := findI_some hh
      simp only [Nat.sub_zero] at hb
      simp only [Option.isNone_some, List.all_eq_false]
      exact ⟨b, List.mem_of_getElem? hb, by simpa [notIn] using h2⟩
  rw [hall]
  have hpick : i = 0 ∨ ∃ (j : Nat) (y : Ins), i = j + 1 ∧ j < l.length ∧ l[j]? = some y ∧ y.op = 20 := by
    rcases Nat.eq_zero_or_pos i with h0 | h0
    · exact .inl h0
    · refine .inr ⟨i - 1, l[i - 1], by omega, by omega, List.getElem?_eq_getElem (by omega), ?_⟩
      have : opAt l (i - 1) = 20 := Classical.byContradiction fun hc => hno ⟨h0, hc⟩
      unfold opAt at this
      rw [List.getElem?_eq_getElem (by omega)] at this
      exact this
  by_cases hlen : x.to.length = from_.length
  · have hlB : (x.to.length == from_.length) = true := by simp [hlen]
    rw [hlB, Bool.true_and]
    have hlI : ((x.to.length : Nat) : Int) = ((from_.length : Nat) : Int) := by omega
    rcases hpick with rfl | ⟨j, y, rfl, hj, hy, hyo⟩
    · cases hh : findI (notIn x) 0 from_ <;> rw [hh] at e2 <;> simp (disch := omega) [Tryz.f80, lv80, hk, encFn, encIns, hl, hkl, hx, hil, hp0, hrl, hlen, hlI, e1, e2, wrap_i64, -getElem?_pos]
    · have hji : (0 : Int) < ((j : Nat) : Int) + 1 := by omega
      have hj0 : (0 : Int) ≤ ((j : Nat) : Int) + 1 := by omega
      cases hh : findI (notIn x) 0 from_ <;> rw [hh] at e2 <;> simp (disch := omega) [Tryz.f80, lv80, hk, encFn, encIns, hl, hkl, hx, hil, hp0, hrl, hlen, hlI, hji, hj0, hj, hy, hyo, e1, e2, wrap_i64, -getElem?_pos]
  · have hlB : (x.to.length == from_.length) = false := by simp [hlen]
    have hlBI : (((x.to.length : Nat) : Int) != ((from_.length : Nat) : Int)) = true := by simp; omega
    have hlI : ¬ ((x.to.length : Nat) : Int) = ((from_.length : Nat) : Int) := by omega
    rw [hlB, Bool.false_and]
    rcases hpick with rfl | ⟨j, y, rfl, hj, hy, hyo⟩
    · simp (disch := omega) [Tryz.f80, lv80, hk, encFn, encIns, hl, hkl, hx, hil, hp0, hrl, hlen, hlI, hlBI, e1, wrap_i64, -getElem?_pos]
    · have hji : (0 : Int) < ((j : Nat) : Int) + 1 := by omega
      have hj0 : (0 : Int) ≤ ((j : Nat) : Int) + 1 := by omega
      simp (disch := omega) [Tryz.f80, lv80, hk, encFn, encIns, hl, hkl, hx, hil, hp0, hrl, hlen, hlI, hlBI, hji, hj0, hj, hy, hyo, e1, wrap_i64, -getElem?_pos]
end Go.Proofs.YtkbdhjfjbkmkcaaGreat.Abs

/- What is wrong with an instruction: what it makes, what stands ahead of what it takes, which types it takes. -/
set_option linter.unusedSimpArgs false
set_option linter.unusedVariables false
namespace Go.Proofs.YtkbdhjfjbkmkcaaGreat.Abs
open Go Go.RowKit Go.Proofs

def valueF (f : Fn) (k i : Nat) (l : List Ins) (x : Ins) (src : Bool) : Int :=
  if (makesF x.op x.ty != 0 && (madeF f x.id k i).isSome) = true then 5
  else if (x.op == 20 && !phiB l i x (prdB (f.blocks.map nextB) k f.blocks.length)) = true then 11
  else if (src && laterB x) = true then 2 else 0
theorem value11 (h : Heap) (f : Fn) (hf : f.Ok) (he : Ended f) (hn : f.blocks.length ≤ 1000) (k : Nat) (l : List Ins) (hl : f.blocks[k]? = some l) (i : Nat) (x : Ins) (hx : l[i]? = some x) (src : Bool) :
    CX 46 [.agg (encFn f), I (k : Nat), I (i : Nat), Bo src] h = some (I (valueF f k i l x src), h, []) := by
  have hk : cfg.keep 46 = 0 := rfl
  refine CI_of Tryz.func46 rfl 0 ?_
  have hkl := (List.getElem?_eq_some_iff.1 hl).1
  have hil := (List.getElem?_eq_some_iff.1 hx).1
  have e1 := fun h => makes5 h x.op x rfl
  have e2 := fun h => made11 h f hf x.id k i
  have e3 := fun h => phi11 h f hf he hn k l hl i x hx
  have e4 := fun h => later11 h x
  simp [encFn, encIns] at e1 e2 e3 e4
  unfold valueF
  generalize phiB l i x (prdB (f.blocks.map nextB) k f.blocks.length) = pb at *
  generalize laterB x = lb at *
  generalize madeF f x.id k i = md at *
  generalize makesF x.op x.ty = mk at *
  have tail : ∀ b5 : Bool, b5 = (mk != 0 && md.isSome) → True := fun _ _ => trivial
  by_cases hm : mk = 0
  · have hmB : (mk != 0) = false := by simp [hm]
    rw [hmB]
    subst hm
    by_cases hop : x.op = 20
    · have hopB : (x.op == 20) = true := by simp [hop]
      cases pb <;> cases src <;> cases lb <;> simp (disch := omega) [Tryz.f46, lz46, hk, encFn, encIns, hl, hkl, hx, hil, hopB, e1, e2, e3, e4, -getElem?_pos]
    · have hopB : (x.op == 20) = false := by simp [hop]
      cases src <;> cases lb <;> simp (disch := omega) [Tryz.f46, lz46, hk, encFn, encIns, hl, hkl, hx, hil, hop, hopB, e1, e2, e3, e4, -getElem?_pos]
  · have hmB : (mk != 0) = true := by simp [hm]
    rw [hmB]
    cases md with
    | some r =>
      simp [plcL] at e2
      simp (disch := omega) [Tryz.f46, lz46, hk, encFn, encIns, hl, hkl, hx, hil, hm, hmB, e1, e2, e3, e4, -getElem?_pos]
    | none =>
      simp [plcL] at e2
      by_cases hop : x.op = 20
      · have hopB : (x.op == 20) = true := by simp [hop]
        cases pb <;> cases src <;> cases lb <;> simp (disch := omega) [Tryz.f46, lz46, hk, encFn, encIns, hl, hkl, hx, hil, hm, hmB, hopB, e1, e2, e3, e4, -getElem?_pos]
      · have hopB : (x.op == 20) = false := by simp [hop]
        cases src <;> cases lb <;> simp (disch := omega) [Tryz.f46, lz46, hk, encFn, encIns, hl, hkl, hx, hil, hm, hmB, hop, hopB, e1, e2, e3, e4, -getElem?_pos]

def headF (p : List Fn) (f : Fn) (x : Ins) : Int :=
  if (x.op == 28 && ((f.ret == 0) != (x.args.length == 0))) = true then 13
  else if x.op ≠ 21 then 0
  else match findF p x.name with
    | none => 12
    | some g => if g.ret ≠ x.ty then 9 else if g.params.length ≠ x.args.length then 13 else 0
theorem head11 (h : Heap) (p : List Fn) (hp : POk p) (f : Fn) (x : Ins) (hx : x.Ok) : CX 48 [.agg (encProg p), .agg (encFn f), .agg (encIns x)] h = some (I (headF p f x), h, []) := by
  have hk : cfg.keep 48 = 0 := rfl
  refine CI_of Tryz.func48 rfl 0 ?_
  have e1 := fun h => find11 h p hp.fit x.name
  have hal : x.args.length ≤ 17592186044416 := hx.args
  obtain ⟨op, id, n, ty, args, to, name, at_⟩ := x
  obtain ⟨fname, fparams, fret, fblocks, fat⟩ := f
  simp only at e1 hal
  unfold headF
  simp only
  simp [encProg] at e1
  by_cases h1 : op = 28
  · subst h1
    have h0 : ∀ n : Nat, ¬ ((n : Nat) : Int) + 1 = 0 := fun n => by omega
    have h0B : ∀ n : Nat, (((n : Nat) : Int) + 1 == 0) = false := fun n => by simp; omega
    by_cases hr : fret = 0
    · subst hr
      cases args <;> simp at hal <;> simp (disch := omega) [Tryz.f48, lz48, hk, encFn, encIns, encProg, h0, h0B, e1, -getElem?_pos]
    · have hrB : (fret == 0) = false := by simp [hr]
      cases args <;> simp at hal <;> simp (disch := omega) [Tryz.f48, lz48, hk, encFn, encIns, encProg, hr, hrB, h0, h0B, e1, -getElem?_pos]
  · have h1B : (op == 28) = false := by simp [h1]
    by_cases h2 : op = 21
    · subst h2
      cases hf : findF p name with
      | none =>
        rw [hf] at e1
        simp [encFn, fnZ] at e1
        simp (disch := omega) [Tryz.f48, lz48, hk, encFn, encIns, encProg, e1, -getElem?_pos]
      | some g =>
        rw [hf] at e1
        have hgl : g.params.length ≤ 17592186044416 := (hp.each g (findF_some hf).1).params
        obtain ⟨gname, gparams, gret, gblocks, gat⟩ := g
        simp [encFn] at e1 hgl
        by_cases h3 : gret = ty
        · subst h3
          by_cases h4 : gparams.length = args.length
          · have h4I : ((gparams.length : Nat) : Int) = ((args.length : Nat) : Int) := by omega
            simp (disch := omega) [Tryz.f48, lz48, hk, encFn, encIns, encProg, e1, h4, h4I, -getElem?_pos]
          · have h4I : ¬ ((gparams.length : Nat) : Int) = ((args.length : Nat) : Int) := by omega
            have h4B : (((gparams.length : Nat) : Int) != ((args.length : Nat) : Int)) = true := by simp; omega
            simp (disch := omega) [Tryz.f48, lz48, hk, encFn, encIns, encProg, e1, h4, h4I, h4B, -getElem?_pos]
        · have h3B : (gret != ty) = true := by simp [h3]
          simp (disch := omega) [Tryz.f48, lz48, hk, encFn, encIns, encProg, e1, h3, h3B, -getElem?_pos]
    · have h2B : (op != 21) = true := by simp [h2]
      simp (disch := omega) [Tryz.f48, lz48, hk, encFn, encIns, encProg, h1, h1B, h2, h2B, -getElem?_pos]

def wantF (p : List Fn) (f : Fn) (x : Ins) (n : Nat) : Int :=
  if x.op = 20 ∨ x.op = 24 then x.ty else if x.op = 28 then f.ret else if x.op = 21 then ((findF p x.name).getD fnZ).params.getD n 0 else (takesL x.op).getD n 0
theorem want11 (h : Heap) (p : List Fn) (hp : POk p) (f : Fn) (x : Ins) (n : Nat) (hc : countsB x.op x.args.length x.to.length = true) (hn : n < x.args.length) (hh : headF p f x = 0) :
    CX 84 [.agg (encProg p), .agg (encFn f), .agg (encIns x), I (n : Nat)] h = some (I (wantF p f x n), h, []) := by
  have hk : cfg.keep 84 = 0 := rfl
  refine CI_of Tryz.func84 rfl 0 ?_
  have e1 := fun h => find11 h p hp.fit x.name
  have e2 := fun h => takes5 h x.op
  obtain ⟨op, id, nn, ty, args, to, name, at_⟩ := x
  obtain ⟨fname, fparams, fret, fblocks, fat⟩ := f
  simp only at e1 e2 hn hc
  unfold wantF
  simp only
  simp [encProg] at e1
  by_cases h1 : op = 20
  · subst h1
    simp (disch := omega) [Tryz.f84, lz84, hk, encFn, encIns, encProg, -getElem?_pos]
  · by_cases h2 : op = 24
    · subst h2
      simp (disch := omega) [Tryz.f84, lz84, hk, encFn, encIns, encProg, -getElem?_pos]
    · by_cases h3 : op = 28
      · subst h3
        simp (disch := omega) [Tryz.f84, lz84, hk, encFn, encIns, encProg, -getElem?_pos]
      · have h1B : (op == 20) = false := by simp [h1]
        have h2B : (op == 24) = false := by simp [h2]
        have h3B : (op == 28) = false := by simp [h3]
        by_cases h4 : op = 21
        · subst h4
          unfold headF at hh
          simp at hh
          cases hf : findF p name with
          | none => rw [hf] at hh; simp at hh
          | some g =>
            rw [hf] at hh e1
            obtain ⟨gname, gparams, gret, gblocks, gat⟩ := g
            have hgl : gparams.length = args.length := Classical.byContradiction fun hne => by
              simp only at hh
              split at hh <;> simp [hne] at hh
            have hng : n < gparams.length := by omega
            obtain ⟨t, ht⟩ : ∃ t, gparams[n]? = some t := ⟨_, List.getElem?_eq_getElem hng⟩
            simp [encFn] at e1
            simp (disch := omega) [Tryz.f84, lz84, hk, encFn, encIns, encProg, e1, ht, hng, List.getD, -getElem?_pos]
        · have h4B : (op == 21) = false := by simp [h4]
          have hlen : args.length = (takesL op).length := by
            unfold countsB at hc
            rw [if_neg h1, if_neg h4, if_neg h3, if_neg h2] at hc
            by_cases h5 : op = 26
            · subst h5; have h7 := (of_decide_eq_true hc).1; rw [h7]; decide
            · rw [if_neg h5] at hc
              by_cases h6 : op = 27
              · subst h6; have h7 := (of_decide_eq_true hc).1; rw [h7]; decide
              · rw [if_neg h6] at hc; simpa using (of_decide_eq_true hc).1
          have hnt : n < (takesL op).length := by omega
          obtain ⟨t, ht⟩ : ∃ t, (takesL op)[n]? = some t := ⟨_, List.getElem?_eq_getElem hnt⟩
          have hg : (takesL op).getD n 0 = t := by simp [List.getD, ht]
          rw [hg]
          generalize takesL op = tl at *
          simp (disch := omega) [Tryz.f84, lz84, hk, encFn, encIns, encProg, e2, ht, hnt, h1, h1B, h2, h2B, h3, h3B, h4, h4B, -getElem?_pos]
end Go.Proofs.YtkbdhjfjbkmkcaaGreat.Abs
