/- YtdkknhpdjcdmfaaJB39: texts that follow each other, as one. -/
import Derived.Test.YtdkknhpdjcdmfaaJB37
import Derived.Test.YtdkknhpdjcdmfaaJB38
/- Maps as bytes. -/
set_option linter.unusedSimpArgs false
set_option linter.unusedVariables false
namespace Go.Proofs.Ytdkknhpdjcdmfaa.Abs
open Go Go.RowKit Go.Proofs

/-- What is told of safepoints, as bytes. -/
def basesF (ps : List Int) : List (Int × Int) → List Int
  | [] => []
  | d :: ds => putI (idxI ps d.2) ++ basesF ps ds
def entF (last : Int) (e : Ent) : List Int := putI (e.n - last - 1) ++ putI e.f ++ listF e.ps ++ listF (e.ds.map (·.1)) ++ basesF e.ps e.ds
def entsF : Int → List Ent → List Int
  | _, [] => []
  | last, e :: es => entF last e ++ entsF e.n es
def numsF : List Int → List Int
  | [] => []
  | n :: ns => putI n ++ numsF ns
def bytesF (m : Mps) : List Int := putI m.sizes.length ++ numsF m.sizes ++ putI m.es.length ++ entsF 0 m.es

/-- Maps of which bytes are made. -/
structure Ent.Good (last : Int) (e : Ent) : Prop where
  n : last < e.n ∧ e.n ≤ 1048576
  f : 0 ≤ e.f ∧ e.f ≤ 1048576
  ps : Up (-1) e.ps
  ds : Up (-1) (e.ds.map (·.1))
  bs : ∀ d, d ∈ e.ds → 0 ≤ idxI e.ps d.2
  pl : e.ps.length ≤ 1048576
  dl : e.ds.length ≤ 1048576
def GoodE : Int → List Ent → Prop
  | _, [] => True
  | last, e :: es => e.Good last ∧ GoodE e.n es
structure Mps.Good (m : Mps) : Prop where
  sl : m.sizes.length ≤ 1048576
  sizes : ∀ n, n ∈ m.sizes → 0 ≤ n ∧ n ≤ 1048576
  el : m.es.length ≤ 100000
  es : GoodE 0 m.es

theorem idxI_le (ps : List Int) (n : Int) : idxI ps n ≤ ps.length := by
  unfold idxI
  split
  · rename_i i h
    obtain ⟨_, x, h1, _⟩ := findI_some h
    have := (List.getElem?_eq_some_iff.1 h1).1
    omega
  · omega
theorem bases_le (ps : List Int) (hp : ps.length ≤ 1048576) : ∀ ds : List (Int × Int), (basesF ps ds).length ≤ 9 * ds.length
  | [] => Nat.le_refl _
  | d :: ds => by
    have h1 := bases_le ps hp ds
    have h2 := idxI_le ps d.2
    have h3 : (putI (idxI ps d.2)).length ≤ 9 := putI_le9 (by omega)
    simp only [basesF, List.length_append, List.length_cons]
    omega
theorem listF_le {xs : List Int} (hu : Up (-1) xs) (hl : xs.length ≤ 1048576) : (listF xs).length ≤ 9 * xs.length + 9 := by
  have h1 := gaps_le (-1) xs (by omega) hu
  have h3 : (putI xs.length).length ≤ 9 := putI_le9 (by omega)
  simp only [listF, List.length_append]
  omega
theorem entF_le {last : Int} {e : Ent} (h0 : 0 ≤ last) (hg : e.Good last) : (entF last e).length ≤ 30000000 := by
  have h1 : (putI (e.n - last - 1)).length ≤ 9 := putI_le9 (by have := hg.n; omega)
  have h2 : (putI e.f).length ≤ 9 := putI_le9 (by have := hg.f; omega)
  have h3 := listF_le hg.ps hg.pl
  have h4 := listF_le hg.ds (by simpa using hg.dl)
  have h5 := bases_le e.ps hg.pl e.ds
  have h6 := hg.pl
  have h7 := hg.dl
  simp only [List.length_map] at h4
  simp only [entF, List.length_append]
  omega
end Go.Proofs.Ytdkknhpdjcdmfaa.Abs

/- Maps as bytes: the loops. -/
set_option linter.unusedSimpArgs false
set_option linter.unusedVariables false
namespace Go.Proofs.Ytdkknhpdjcdmfaa.Abs
open Go Go.RowKit Go.Proofs

def byG (h : Heap) (m : Mps) (i : Nat) (bs : List Int) (v37 v36 v35 v8 v6 v60 v59 v58 v9 v76 v75 v74 : V) (s8 s9 : Option AO) : St :=
  ⟨[(1, .one (.ptr h.length 1 0 0)), (21, I (i : Nat)), (20, I (m.sizes.length : Nat)), (19, Sl (intsOf m.sizes)), (3, .one (.sl (h.length + 1) 1 bs.length 0 bs.length)), (37, v37), (36, v36), (35, v35), (8, v8), (6, v6), (60, v60), (59, v59), (58, v58), (9, v9), (76, v76), (75, v75), (74, v74)],
    h ++ [some (.row 2 [encMps m]), some (.row 1 (u8sOf bs)), s8, s9], []⟩
def byA (h : Heap) (m : Mps) (s : Nat × List Int) : St := byG h m s.1 s.2 .junk .junk .junk .junk .junk .junk .junk .junk .junk .junk .junk .junk none none

theorem by_sizes (h : Heap) (m : Mps) (hm : m.Ok) (hg : m.Good) (bs : List Int) (hb : bs.length ≤ 1000000) :
    lpK 28 Try.f28 90 0 h (byA h m (0, bs)) = some (.exit 0, byA h m (m.sizes.length, bs ++ numsF m.sizes)) := by
  have h1 := hg.sl
  have h2 := hg.sizes
  have h3 := hm.sizes
  have key := loop_fun (P := Try.prog) (C := cfg) (sc := runScope Try.prog cfg 90 h.length (cfg.live 28) 0) (N := 90) (n0 := h.length) (K := cfg.live 28) (c := loopAt Try.f28 0) (byA h m)
    (fun s => s.1 ≤ m.sizes.length ∧ s.2.length + 9 * (m.sizes.length - s.1) ≤ 17592186044416) (fun s => m.sizes.length - s.1) (fun s => (.exit 0, byA h m (m.sizes.length, s.2 ++ numsF (m.sizes.drop s.1)))) ?_ (0, bs) ⟨Nat.zero_le _, by simp only; omega⟩
  · simp only [List.drop_zero] at key
    exact key
  rintro ⟨i, bs⟩ ⟨j1, j5⟩
  simp only at j1 j5 ⊢
  rcases Nat.lt_or_ge i m.sizes.length with hi | hi
  · obtain ⟨x, hx⟩ : ∃ x, m.sizes[i]? = some x := ⟨_, List.getElem?_eq_getElem hi⟩
    have hd : m.sizes.drop i = x :: m.sizes.drop (i + 1) := by
      rw [List.drop_eq_getElem_cons hi]; rw [List.getElem?_eq_getElem hi] at hx; cases hx; rfl
    have hx2 := h2 x (List.mem_of_getElem? hx)
    have h9 : (putI x).length ≤ 9 := putI_le9 (by omega)
    refine .inl ⟨(i + 1, bs ++ putI x), ?_, ⟨hi, by simp only [List.length_append]; omega⟩, by simp only; omega, ?_⟩
    · simp (disch := (first | omega | simp (disch := omega) [])) [round_eq, byA, byG, encMps, Try.f28, lv28, hx, hi, wrap_i64, put_at, u8sOf_app, -getElem?_pos]
    · rw [hd]; simp [numsF]
  · have : i = m.sizes.length := by omega
    subst this
    refine .inr ⟨?_, nofun⟩
    simp (disch := omega) [round_eq, byA, byG, encMps, Try.f28, lv28, numsF]

/-! What is left of the entry ahead. -/
def byI : Option Ent → V
  | none => .junk
  | some e => I (e.ds.length : Nat)
def byP : Option Ent → V
  | none => .junk
  | some e => Sl (pairsOf e.ds)
def by8 (h : Heap) : Option Ent → V
  | none => .junk
  | some _ => .one (.ptr (h.length + 2) 1 0 0)
def by9 (h : Heap) : Option Ent → V
  | none => .junk
  | some e => .one (.sl (h.length + 3) 1 e.ds.length 0 e.ds.length)
def bs8 : Option Ent → Option AO
  | none => none
  | some e => some (.row 4 [encEnt e])
def bs9 : Option Ent → Option AO
  | none => none
  | some e => some (.row 1 (intsOf (e.ds.map (·.1))))

def byD (h : Heap) (m : Mps) (k : Nat) (bs : List Int) (e : Ent) (o : Option Ent) (s : Nat × List Int) : St :=
  byG h m m.sizes.length bs (I (k : Nat)) (I (m.es.length : Nat)) (Sl (entsOf m.es)) (.one (.ptr (h.length + 2) 1 0 0)) (I e.n) (I (s.1 : Nat)) (I (e.ds.length : Nat)) (Sl (pairsOf e.ds)) (.one (.sl (h.length + 3) 1 s.2.length 0 s.2.length)) (byI o) (byI o) (byP o) (some (.row 4 [encEnt e])) (some (.row 1 (intsOf s.2)))
theorem by_ders (h : Heap) (m : Mps) (k : Nat) (bs : List Int) (e : Ent) (he : e.Ok) (o : Option Ent) :
    lpK 28 Try.f28 90 2 h (byD h m k bs e o (0, [])) = some (.exit 4, byD h m k bs e o (e.ds.length, e.ds.map (·.1))) := by
  have h3 := he.ds
  have key := loop_list (P := Try.prog) (C := cfg) (sc := runScope Try.prog cfg 90 h.length (cfg.live 28) 0) (N := 90) (n0 := h.length) (K := cfg.live 28) (c := loopAt Try.f28 2) e.ds (fun acc d => acc ++ [d.1]) (fun i acc => byD h m k bs e o (i, acc)) (fun acc => (.exit 4, byD h m k bs e o (e.ds.length, acc))) (fun i acc => acc.length = i) ?_ ?_ [] rfl
  · rw [foldl_push] at key
    exact key
  · intro i acc d hd hl
    have hi := (List.getElem?_eq_some_iff.1 hd).1
    refine ⟨?_, by simp [hl]⟩
    subst hl
    cases o <;> simp (disch := omega) [round_eq, byD, byG, byI, byP, encMps, encEnt, Try.f28, lv28, hd, hi, wrap_i64, room_of, intsOf_snoc, -getElem?_pos]
  · intro acc hl
    refine ⟨?_, nofun⟩
    cases o <;> simp (disch := omega) [round_eq, byD, byG, byI, byP, encMps, encEnt, Try.f28, lv28]

def byF (h : Heap) (m : Mps) (k : Nat) (e : Ent) (s : Nat × List Int) : St :=
  byG h m m.sizes.length s.2 (I (k : Nat)) (I (m.es.length : Nat)) (Sl (entsOf m.es)) (.one (.ptr (h.length + 2) 1 0 0)) (I e.n) (I (e.ds.length : Nat)) (I (e.ds.length : Nat)) (Sl (pairsOf e.ds)) (.one (.sl (h.length + 3) 1 e.ds.length 0 e.ds.length)) (I (s.1 : Nat)) (I (e.ds.length : Nat)) (Sl (pairsOf e.ds)) (some (.row 4 [encEnt e])) (some (.row 1 (intsOf (e.ds.map (·.1)))))
theorem by_bases (h : Heap) (m : Mps) (k : Nat) (bs : List Int) (e : Ent) (he : e.Ok) (last : Int) (hg : e.Good last) (hb : bs.length + 30000000 ≤ 17592186044416) :
    lpK 28 Try.f28 90 3 h (byF h m k e (0, bs)) = some (.exit 6, byF h m k e (e.ds.length, bs ++ basesF e.ps e.ds)) := by
  have h3 := he.ds
  have h4 := he.ps
  have h5 := hg.pl
  have h6 := hg.dl
  have key := loop_fun (P := Try.prog) (C := cfg) (sc := runScope Try.prog cfg 90 h.length (cfg.live 28) 0) (N := 90) (n0 := h.length) (K := cfg.live 28) (c := loopAt Try.f28 3) (byF h m k e)
    (fun s => s.1 ≤ e.ds.length ∧ s.2.length + 9 * (e.ds.length - s.1) ≤ 17592186044416) (fun s => e.ds.length - s.1) (fun s => (.exit 6, byF h m k e (e.ds.length, s.2 ++ basesF e.ps (e.ds.drop s.1)))) ?_ (0, bs) ⟨Nat.zero_le _, by simp only; omega⟩
  · simp only [List.drop_zero] at key
    exact key
  rintro ⟨i, bs⟩ ⟨j1, j5⟩
  simp only at j1 j5 ⊢
  rcases Nat.lt_or_ge i e.ds.length with hi | hi
  · obtain ⟨d, hx⟩ : ∃ x, e.ds[i]? = some x := ⟨_, List.getElem?_eq_getElem hi⟩
    have hd : e.ds.drop i = d :: e.ds.drop (i + 1) := by
      rw [List.drop_eq_getElem_cons hi]; rw [List.getElem?_eq_getElem hi] at hx; cases hx; rfl
    have hx2 := hg.bs d (List.mem_of_getElem? hx)
    have hx3 := idxI_le e.ps d.2
    have h9 : (putI (idxI e.ps d.2)).length ≤ 9 := putI_le9 (by omega)
    refine .inl ⟨(i + 1, bs ++ putI (idxI e.ps d.2)), ?_, ⟨hi, by simp only [List.length_append]; omega⟩, by simp only; omega, ?_⟩
    · simp (disch := (first | omega | simp (disch := omega) [])) [round_eq, byF, byG, encMps, encEnt, Try.f28, lv28, hx, hi, wrap_i64, put_at, index _ e.ps h4, u8sOf_app, -getElem?_pos]
    · rw [hd]; simp [basesF]
  · have : i = e.ds.length := by omega
    subst this
    refine .inr ⟨?_, nofun⟩
    simp (disch := omega) [round_eq, byF, byG, encMps, encEnt, Try.f28, lv28, basesF]
end Go.Proofs.Ytdkknhpdjcdmfaa.Abs

/- Maps as bytes: all of them. -/
set_option linter.unusedSimpArgs false
set_option linter.unusedVariables false
namespace Go.Proofs.Ytdkknhpdjcdmfaa.Abs
open Go Go.RowKit Go.Proofs

def byO (h : Heap) (m : Mps) (s : Nat × Int × List Int × Option Ent) : St :=
  byG h m m.sizes.length s.2.2.1 (I (s.1 : Nat)) (I (m.es.length : Nat)) (Sl (entsOf m.es)) (by8 h s.2.2.2) (I s.2.1) (byI s.2.2.2) (byI s.2.2.2) (byP s.2.2.2) (by9 h s.2.2.2) (byI s.2.2.2) (byI s.2.2.2) (byP s.2.2.2) (bs8 s.2.2.2) (bs9 s.2.2.2)

theorem by_round (h : Heap) (m : Mps) (k : Nat) (last : Int) (h0 : 0 ≤ last) (bs : List Int) (o : Option Ent) (e : Ent) (he : e.Ok) (hg : e.Good last) (hx : m.es[k]? = some e) (hf : m.Ok) (hb : bs.length + 60000000 ≤ 17592186044416) :
    round Try.prog cfg (runScope Try.prog cfg 90 h.length (cfg.live 28) 0) 90 h.length (cfg.live 28) (loopAt Try.f28 1) (byO h m (k, last, bs, o)) = some (.normal, byO h m (k + 1, e.n, bs ++ entF last e, some e)) := by
  have d := dt28
  simp [Try.f28, infoFn, infoRegs] at d
  have hl := entF_le h0 hg
  have hi := (List.getElem?_eq_some_iff.1 hx).1
  have hes := hf.es
  have h3 := he.ds
  have h4 := he.ps
  have h5 := hg.pl
  have h6 := hg.dl
  have hn := hg.n
  have hff := hg.f
  have h7 : Fit (e.ds.map (·.1)) := by simp [Fit]; omega
  have p1 : (putI (e.n - last - 1)).length ≤ 9 := putI_le9 (by omega)
  have p2 : (putI e.f).length ≤ 9 := putI_le9 (by omega)
  have p3 := listF_le hg.ps hg.pl
  have p4 := listF_le hg.ds (by simpa using hg.dl)
  have u1 := hg.ps
  have u2 := hg.ds
  have e2 := by_ders h m k (bs ++ putI (e.n - last - 1) ++ putI e.f ++ listF e.ps) e he o
  have e3 := by_bases h m k (bs ++ putI (e.n - last - 1) ++ putI e.f ++ listF e.ps ++ listF (e.ds.map (·.1))) e he last hg (by simp only [List.length_append, List.length_map] at p4 ⊢; omega)
  simp [byF, byG, lpK, lv28, Try.f28, encMps, encEnt, Nat.add_assoc] at e3
  simp only [List.length_map] at p4
  cases o <;> simp [byD, byG, lpK, lv28, Try.f28, byI, byP, encMps, encEnt, Nat.add_assoc] at e2 <;>
  simp (disch := (first | omega | simp (disch := omega) [u1, u2, h3, h4, h7, Nat.add_assoc])) [round_eq, byO, byG, by8, by9, byI, byP, bs8, bs9, encMps, encEnt, Try.f28, lv28, hx, hi, wrap_i64, put_at, list_at, list_own, u8sOf_app, d, e2, e3, unOK, apartR, disjoint, cellsApart, entF, Nat.add_assoc, -getElem?_pos]

theorem goodE_pos : ∀ {last : Int} {es : List Ent}, GoodE last es → ∀ e, e ∈ es → ∃ l, e.Good l
  | _, [], _, e, he => by simp at he
  | last, x :: es, ⟨h1, h2⟩, e, he => by
    rcases List.mem_cons.1 he with rfl | he
    · exact ⟨_, h1⟩
    · exact goodE_pos h2 e he

theorem by_ents (h : Heap) (m : Mps) (hm : m.Ok) (hg : m.Good) (bs : List Int) (hb : bs.length ≤ 100000000) :
    ∃ l o, lpK 28 Try.f28 90 1 h (byO h m (0, 0, bs, none)) = some (.exit 2, byO h m (m.es.length, l, bs ++ entsF 0 m.es, o)) := by
  have h1 := hg.el
  have key := loop_rel (P := Try.prog) (C := cfg) (sc := runScope Try.prog cfg 90 h.length (cfg.live 28) 0) (N := 90) (n0 := h.length) (K := cfg.live 28) (c := loopAt Try.f28 1) (byO h m)
    (fun s => s.1 ≤ m.es.length ∧ 0 ≤ s.2.1 ∧ GoodE s.2.1 (m.es.drop s.1) ∧ s.2.2.1.length + 30000000 * (m.es.length - s.1) + 60000000 ≤ 17592186044416) (fun s => m.es.length - s.1) (fun s r => ∃ l o, r = (.exit 2, byO h m (m.es.length, l, s.2.2.1 ++ entsF s.2.1 (m.es.drop s.1), o))) ?_ (0, 0, bs, none) ⟨Nat.zero_le _, by simp, by simpa using hg.es, by simp only; omega⟩
  · obtain ⟨r, h1, l, o, rfl⟩ := key
    simp only [List.drop_zero] at h1
    exact ⟨l, o, h1⟩
  rintro ⟨i, last, bs, o⟩ ⟨j1, j2, j3, j5⟩
  simp only at j1 j2 j3 j5 ⊢
  rcases Nat.lt_or_ge i m.es.length with hi | hi
  · obtain ⟨e, hx⟩ : ∃ x, m.es[i]? = some x := ⟨_, List.getElem?_eq_getElem hi⟩
    have hd : m.es.drop i = e :: m.es.drop (i + 1) := by
      rw [List.drop_eq_getElem_cons hi]; rw [List.getElem?_eq_getElem hi] at hx; cases hx; rfl
    rw [hd] at j3 ⊢
    obtain ⟨u1, u2⟩ := j3
    have hl := entF_le j2 u1
    have hn := u1.n
    refine .inl ⟨(i + 1, e.n, bs ++ entF last e, some e), by_round h m i last j2 bs o e (hm.each e (List.mem_of_getElem? hx)) u1 hx hm (by omega), ⟨hi, by simp only; omega, u2, by simp only [List.length_append]; omega⟩, by simp only; omega, ?_⟩
    rintro r ⟨l, o', rfl⟩
    exact ⟨l, o', by simp [entsF]⟩
  · have : i = m.es.length := by omega
    subst this
    refine .inr ⟨(.exit 2, byO h m (m.es.length, last, bs, o)), ?_, nofun, last, o, by simp [entsF]⟩
    cases o <;> simp (disch := omega) [round_eq, byO, byG, by8, by9, byI, byP, bs8, bs9, encMps, encEnt, Try.f28, lv28]

theorem nums_le : ∀ ns : List Int, (∀ n, n ∈ ns → 0 ≤ n ∧ n ≤ 1048576) → (numsF ns).length ≤ 9 * ns.length
  | [], _ => Nat.le_refl _
  | n :: ns, h => by
    have h1 := nums_le ns fun x hx => h x (List.mem_cons_of_mem _ hx)
    have h2 := h n List.mem_cons_self
    have h3 : (putI n).length ≤ 9 := putI_le9 (by omega)
    simp only [numsF, List.length_append, List.length_cons]
    omega

/-- Maps as bytes. -/
theorem bytes (h : Heap) (m : Mps) (hm : m.Ok) (hg : m.Good) : CX 28 [.agg (encMps m)] h = some (Sl (u8sOf (bytesF m)), h, []) := by
  refine CI_of Try.func28 rfl 0 ?_
  have hk : cfg.keep 28 = 0 := rfl
  have h1 := hg.sl
  have h2 := hg.el
  have h3 := nums_le m.sizes hg.sizes
  have p1 : (putI (m.sizes.length : Nat)).length ≤ 9 := putI_le9 (by omega)
  have p2 : (putI (m.es.length : Nat)).length ≤ 9 := putI_le9 (by omega)
  have e1 := by_sizes h m hm hg (putI (m.sizes.length : Nat)) (by omega)
  obtain ⟨l, o, e2⟩ := by_ents h m hm hg (putI (m.sizes.length : Nat) ++ numsF m.sizes ++ putI (m.es.length : Nat)) (by simp only [List.length_append]; omega)
  simp [byA, byG, lpK, lv28, Try.f28, encMps, Nat.add_assoc] at e1
  cases o <;> simp [byO, byG, by8, by9, byI, byP, bs8, bs9, lpK, lv28, Try.f28, encMps, encEnt, Nat.add_assoc] at e2 <;>
  simp (disch := (first | omega | simp (disch := omega) [Nat.add_assoc])) [Try.f28, lv28, encMps, put_nils, put_at, u8sOf_app, e1, e2, hk, bytesF, Nat.add_assoc, -getElem?_pos]
end Go.Proofs.Ytdkknhpdjcdmfaa.Abs

/- Maps out of bytes: a reader. -/
set_option linter.unusedSimpArgs false
set_option linter.unusedVariables false
namespace Go.Proofs.Ytdkknhpdjcdmfaa.Abs
open Go Go.RowKit Go.Proofs

/-- Where a reader is, and what is wrong first. -/
structure Rd where
  at_ : Nat
  code : Int
  eat : Int
def rdRow (b : List Int) (r : Rd) : List Leaf := [.isl (u8sOf b), .int .i64 (r.at_ : Nat), .int .i64 r.code, .int .i64 r.eat]
def rdOf : Option (Nat × List (List Leaf)) → Rd
  | some (_, [[_, .int _ a, .int _ c, .int _ e]]) => ⟨a.toNat, c, e⟩
  | _ => ⟨0, 0, 0⟩
def rdB : Option (Nat × List (List Leaf)) → List Int
  | some (_, [.isl es :: _]) => deInts es
  | _ => []
@[simp] theorem deInts_u8s (xs : List Int) : deInts (u8sOf xs) = xs := by
  unfold deInts u8sOf
  rw [List.map_map]
  exact (List.map_congr_left fun _ _ => rfl).trans (List.map_id _)
@[simp] theorem rdOf_some (n : Nat) (l : Leaf) (k1 k2 k3 : IntKind) (a : Nat) (c e : Int) : rdOf (some (n, [[l, .int k1 (a : Nat), .int k2 c, .int k3 e]])) = ⟨a, c, e⟩ := rfl
@[simp] theorem rdOf_succ (n : Nat) (l : Leaf) (k1 k2 k3 : IntKind) (a : Nat) (c e : Int) : rdOf (some (n, [[l, .int k1 ((a : Int) + 1), .int k2 c, .int k3 e]])) = ⟨a + 1, c, e⟩ := by
  show (⟨((a : Int) + 1).toNat, c, e⟩ : Rd) = _
  rw [show ((a : Int) + 1).toNat = a + 1 by omega]
@[simp] theorem rdOf_zero (n : Nat) (l : Leaf) (k1 k2 k3 : IntKind) (c e : Int) : rdOf (some (n, [[l, .int k1 0, .int k2 c, .int k3 e]])) = ⟨0, c, e⟩ := rfl
@[simp] theorem rdB_some (n : Nat) (es : List (List Leaf)) (cs : List Leaf) : rdB (some (n, [.isl es :: cs])) = deInts es := rfl

/-- Is a reader there? -/
abbrev isRd (o : Option (Nat × List (List Leaf))) : Prop := o = some (4, [rdRow (rdB o) (rdOf o)])
theorem rd_upd {H : Heap} {k : Nat} (hr : isRd (rowAt H k 1)) : k < H.length ∧ ∃ b r, rowAt H k 1 = some (4, [rdRow b r]) ∧ H = updH H k 4 [rdRow b r] := by
  have h1 := (rowAt_some hr).1
  exact ⟨(List.getElem?_eq_some_iff.1 h1).1, _, _, hr, (upd_self h1).symm⟩
theorem rdB_row (b : List Int) (r : Rd) : rdB (some (4, [rdRow b r])) = b := by simp [rdRow]
theorem rdOf_row (b : List Int) (r : Rd) : rdOf (some (4, [rdRow b r])) = r := by simp [rdRow]

theorem fail_at (H : Heap) (k : Nat) (c n : Int) (hr : isRd (rowAt H k 1)) (h0 : (rdOf (rowAt H k 1)).code = 0) :
    CX 65 [.one (.ptr k 1 0 0), I c, I n] H = some (.tup [], H.set k (some (.row 4 [rdRow (rdB (rowAt H k 1)) ⟨(rdOf (rowAt H k 1)).at_, c, n⟩])), [k]) := by
  obtain ⟨hk, b, r, e1, e2⟩ := rd_upd hr
  rw [e1, rdOf_row] at h0
  rw [e1, e2, rdOf_row, rdB_row]
  refine CI_of Try.func65 rfl 0 ?_
  have hkp : cfg.keep 65 = 0 := rfl
  simp (disch := omega) [Try.f65, rdRow, hkp, h0, hk]
theorem fail_no (H : Heap) (k : Nat) (c n : Int) (hr : isRd (rowAt H k 1)) (h0 : ¬ (rdOf (rowAt H k 1)).code = 0) :
    CX 65 [.one (.ptr k 1 0 0), I c, I n] H = some (.tup [], H, []) := by
  obtain ⟨hk, b, r, e1, e2⟩ := rd_upd hr
  rw [e1, rdOf_row] at h0
  rw [e2]
  refine CI_of Try.func65 rfl 0 ?_
  have hkp : cfg.keep 65 = 0 := rfl
  have h0' : (r.code == 0) = false := by simpa using h0
  simp (disch := omega) [Try.f65, rdRow, hkp, h0', hk]
end Go.Proofs.Ytdkknhpdjcdmfaa.Abs

/- Maps out of bytes: a number. -/
set_option linter.unusedSimpArgs false
set_option linter.unusedVariables false
namespace Go.Proofs.Ytdkknhpdjcdmfaa.Abs
open Go Go.RowKit Go.Proofs

def scopeOf : Code → Code
  | .scope c => c
  | .seq _ b => scopeOf b
  | c => c
def scB (fn : Func) : Code := match fn.body with
  | some b => scopeOf b
  | none => .skip
def bdB (fn : Func) : Code := match fn.body with
  | some b => b
  | none => .skip
def hdC : Code → Code
  | .seq a _ => a
  | c => c
def tlC : Code → Code
  | .seq _ b => b
  | c => c
theorem runScope_succ {P : Program} {C : Cfg} {N n0 : Nat} {K : List (Nat × Kd)} (m : Nat) (body cur : Code) (s : St) : runScope P C N n0 K (m + 1) body cur s = scopeK (runScope P C N n0 K m) body (run P C (runScope P C N n0 K m) N n0 K cur s) := by
  rw [runScope]
  cases run P C (runScope P C N n0 K m) N n0 K cur s with
  | none => rfl
  | some r => obtain ⟨x, s'⟩ := r; cases x <;> rfl
def gotoK (sc : Code → Code → St → CR) (c : Code) (l : Nat) (s : St) : Option Code → CR
  | some rest => sc c rest s
  | none => some (.goto l, s)
theorem scopeK_goto (sc : Code → Code → St → CR) (c : Code) (l : Nat) (s : St) : scopeK sc c (some (.goto l, s)) = gotoK sc c l s (findLabel c l) := by
  simp only [scopeK, gotoK]; cases findLabel c l <;> rfl

/-- All written at one place. -/
def Ks (k : Nat) (ws : List Nat) : Prop := ∀ x, x ∈ ws → x = k
theorem ks_snoc {k : Nat} {ws : List Nat} (h : Ks k ws) : Ks k (ws ++ [k]) := by
  intro x hx
  rcases List.mem_append.1 hx with h1 | h1
  · exact h x h1
  · simpa using h1
theorem wsOf_ks {n0 k : Nat} (hk : k < n0) : ∀ {ws : List Nat}, Ks k ws → ws ≠ [] → wsOf n0 ws = [k]
  | [], _, hn => (hn rfl).elim
  | [x], h, _ => by
    have : x = k := h x (by simp)
    subst this
    exact wsOf_one hk
  | x :: y :: ws, h, _ => by
    have h1 : x = k := h x (by simp)
    have h2 : y = k := h y (by simp)
    have h3 := wsOf_ks hk (ws := y :: ws) (fun z hz => h z (List.mem_cons_of_mem _ hz)) (by simp)
    rw [h1, h2, wsOf_dup, ← h2, h3, h2]
theorem wsOf_k1 {n0 k : Nat} (hk : k < n0) {ws : List Nat} (h : Ks k ws) : wsOf n0 (ws ++ [k]) = [k] := wsOf_ks hk (ks_snoc h) (by simp)
theorem wsOf_k2 {n0 k : Nat} (hk : k < n0) {ws : List Nat} (h : Ks k ws) : wsOf n0 (ws ++ [k, k]) = [k] := by
  have := wsOf_ks hk (ks_snoc (ks_snoc h)) (by simp)
  simpa using this

/-- A number out of bytes. -/
def numF (b : List Int) (most : Int) (frm : Nat) (e : Int) : Nat → Int → Nat → Nat → Int × Rd
  | left, n, sh, a => match b[a]? with
    | none => (0, ⟨a, 17, frm⟩)
    | some c =>
      if 128 ≤ c then match left with
        | 0 => (0, ⟨a + 1, 3, frm⟩)
        | left + 1 => numF b most frm e left (n + c % 128 * 2 ^ sh) (sh + 7) (a + 1)
      else if c = 0 ∧ 0 < sh then (0, ⟨a + 1, 3, frm⟩)
      else if most < n + c * 2 ^ sh then (0, ⟨a + 1, 18, frm⟩)
      else (n + c * 2 ^ sh, ⟨a + 1, 0, e⟩)

theorem or_shl {n x : Int} {sh : Nat} (h0 : 0 ≤ n) (h1 : n < 2 ^ sh) (h2 : 0 ≤ x) (h3 : x < 128) (h4 : sh ≤ 28) :
    IntKind.i64.wrap (x * 2 ^ sh) = x * 2 ^ sh ∧ IntKind.i64.wrap (((n % 2 ^ IntKind.i64.bits).toNat ||| (x * 2 ^ sh % 2 ^ IntKind.i64.bits).toNat : Nat) : Int) = n + x * 2 ^ sh := by
  have hp : (2 : Int) ^ sh ≤ 2 ^ 28 := by
    have := Nat.pow_le_pow_right (show 0 < 2 by omega) h4
    have h := Int.ofNat_le.2 this
    simpa using h
  have hp0 : (0 : Int) < 2 ^ sh := Int.pow_pos (by omega)
  have hb : x * 2 ^ sh ≤ 127 * 2 ^ 28 := Int.mul_le_mul (by omega) hp (by omega) (by omega)
  have hb0 : 0 ≤ x * 2 ^ sh := Int.mul_nonneg h2 (by omega)
  refine ⟨wrap_i64 (by omega) (by omega), ?_⟩
  show IntKind.i64.wrap (((n % 2 ^ 64).toNat ||| (x * 2 ^ sh % 2 ^ 64).toNat : Nat) : Int) = n + x * 2 ^ sh
  rw [Int.emod_eq_of_lt h0 (by omega), Int.emod_eq_of_lt hb0 (by omega)]
  have hx : (x * 2 ^ sh).toNat = x.toNat * 2 ^ sh := by
    obtain ⟨y, rfl⟩ : ∃ y : Nat, x = (y : Int) := ⟨x.toNat, by omega⟩
    have : ((y : Int) * 2 ^ sh) = ((y * 2 ^ sh : Nat) : Int) := by simp
    rw [this, Int.toNat_natCast, Int.toNat_natCast]
  have hn : n.toNat < 2 ^ sh := by
    have : ((n.toNat : Nat) : Int) < ((2 ^ sh : Nat) : Int) := by
      have h6 : ((2 ^ sh : Nat) : Int) = (2 : Int) ^ sh := by simp
      rw [h6]; omega
    omega
  have hor : (n.toNat ||| (x * 2 ^ sh).toNat : Nat) = n.toNat + x.toNat * 2 ^ sh := by
    rw [hx, Nat.or_comm, Nat.mul_comm, ← Nat.two_pow_add_eq_or_of_lt hn, Nat.add_comm]
  rw [hor, wrap_i64 (by omega) (by rw [← hx]; omega)]
  rw [← hx]
  omega

theorem num_go (h : Heap) (k : Nat) (hk : k < h.length) (b : List Int) (hf : Fit b) (hb : ∀ c, c ∈ b → 0 ≤ c ∧ c < 256) (most : Int) (frm : Nat) (e : Int) :
    ∀ (left m : Nat) (n : Int) (sh a : Nat) (T : Tmps) (ws : List Nat), left ≤ m → sh + 7 * left = 28 → 0 ≤ n → n < 2 ^ sh → Ks k ws → tget T 0 = .one (.ptr k 1 0 0) → tget T 1 = I most → tget T 5 = I n → tget T 6 = I (sh : Nat) → tget T 7 = I (frm : Nat) →
    finish Try.prog cfg 64 Try.f64.results.toList h.length (runScope Try.prog cfg 86 h.length (cfg.live 64) (m + 1) (scB Try.f64) (.seq .skip (tlC (tlC (scB Try.f64)))) ⟨T, updH h k 4 [rdRow b ⟨a, 0, e⟩], ws⟩)
      = some (I (numF b most frm e left n sh a).1, updH h k 4 [rdRow b (numF b most frm e left n sh a).2], [k]) := by
  have hkp : cfg.keep 64 = 0 := rfl
  have q := qt64
  simp [Try.f64, quietFn, quietRegs] at q
  have stepN : ∀ (m : Nat) (n : Int) (sh a : Nat) (T : Tmps) (ws : List Nat) (c : Int), b[a]? = some c → c < 128 → sh ≤ 28 → 0 ≤ n → n < 2 ^ sh → Ks k ws → tget T 0 = .one (.ptr k 1 0 0) → tget T 1 = I most → tget T 5 = I n → tget T 6 = I (sh : Nat) → tget T 7 = I (frm : Nat) →
    finish Try.prog cfg 64 Try.f64.results.toList h.length (runScope Try.prog cfg 86 h.length (cfg.live 64) (m + 1) (scB Try.f64) (.seq .skip (tlC (tlC (scB Try.f64)))) ⟨T, updH h k 4 [rdRow b ⟨a, 0, e⟩], ws⟩)
      = if c = 0 ∧ 0 < sh then some (I 0, updH h k 4 [rdRow b ⟨a + 1, 3, frm⟩], [k]) else if most < n + c * 2 ^ sh then some (I 0, updH h k 4 [rdRow b ⟨a + 1, 18, frm⟩], [k]) else some (I (n + c * 2 ^ sh), updH h k 4 [rdRow b ⟨a + 1, 0, e⟩], [k]) := by
    intro m n sh a T ws c hc c1 hs n0 n1 hks t0 t1 t5 t6 t7
    have hk1 := wsOf_k1 hk hks
    have hk2 := wsOf_k2 hk hks
    have ha : a < b.length := (List.getElem?_eq_some_iff.1 hc).1
    have ha' : ¬ b.length ≤ a := by omega
    have c0 := hb c (List.mem_of_getElem? hc)
    have hand := u8_and' c c0.1 c0.2
    have hcm : c % 128 = c := by omega
    rw [hcm] at hand
    have hmin : min sh IntKind.i64.bits = sh := Nat.min_eq_left (by show sh ≤ 64; omega)
    obtain ⟨hw, hor⟩ := or_shl n0 n1 c0.1 c1 hs
    have hc1 : ¬ 128 ≤ c := by omega
    rw [runScope_succ]
    have hsn : ¬ ((sh : Nat) : Int) < 0 := by omega
    by_cases hz : c = 0
    · have hzb : (c == 0) = true := by simpa using hz
      by_cases hsh : 0 < sh
      · rw [if_pos ⟨hz, hsh⟩]
        simp (disch := (first | omega | simp (disch := omega) [isRd, rdRow, hk])) [scB, scopeOf, tlC, Try.f64, rdRow, t0, t1, t5, t6, t7, q, hk, hkp, ha', hc, hc1, fail_at, hk1, hk2, wrap_i64, hmin, hand, hw, hor, hsn, hzb, hsh, -getElem?_pos]
      · rw [if_neg fun h => hsh h.2]
        by_cases hmo : most < n + c * 2 ^ sh
        · rw [if_pos hmo]
          simp (disch := (first | omega | simp (disch := omega) [isRd, rdRow, hk])) [scB, scopeOf, tlC, Try.f64, rdRow, t0, t1, t5, t6, t7, q, hk, hkp, ha', hc, hc1, fail_at, hk1, hk2, wrap_i64, hmin, hand, hw, hor, hsn, hzb, hsh, hmo, -getElem?_pos]
        · rw [if_neg hmo]
          simp (disch := (first | omega | simp (disch := omega) [isRd, rdRow, hk])) [scB, scopeOf, tlC, Try.f64, rdRow, t0, t1, t5, t6, t7, q, hk, hkp, ha', hc, hc1, fail_at, hk1, hk2, wrap_i64, hmin, hand, hw, hor, hsn, hzb, hsh, hmo, -getElem?_pos]
    · have hzb : (c == 0) = false := by simpa using hz
      rw [if_neg fun h => hz h.1]
      by_cases hmo : most < n + c * 2 ^ sh
      · rw [if_pos hmo]
        simp (disch := (first | omega | simp (disch := omega) [isRd, rdRow, hk])) [scB, scopeOf, tlC, Try.f64, rdRow, t0, t1, t5, t6, t7, q, hk, hkp, ha', hc, hc1, fail_at, hk1, hk2, wrap_i64, hmin, hand, hw, hor, hsn, hzb, hmo, -getElem?_pos]
      · rw [if_neg hmo]
        simp (disch := (first | omega | simp (disch := omega) [isRd, rdRow, hk])) [scB, scopeOf, tlC, Try.f64, rdRow, t0, t1, t5, t6, t7, q, hk, hkp, ha', hc, hc1, fail_at, hk1, hk2, wrap_i64, hmin, hand, hw, hor, hsn, hzb, hmo, -getElem?_pos]
  have stepE : ∀ (m : Nat) (n : Int) (sh a : Nat) (T : Tmps) (ws : List Nat), b[a]? = none → Ks k ws → tget T 0 = .one (.ptr k 1 0 0) → tget T 1 = I most → tget T 5 = I n → tget T 6 = I (sh : Nat) → tget T 7 = I (frm : Nat) →
    finish Try.prog cfg 64 Try.f64.results.toList h.length (runScope Try.prog cfg 86 h.length (cfg.live 64) (m + 1) (scB Try.f64) (.seq .skip (tlC (tlC (scB Try.f64)))) ⟨T, updH h k 4 [rdRow b ⟨a, 0, e⟩], ws⟩)
      = some (I 0, updH h k 4 [rdRow b ⟨a, 17, frm⟩], [k]) := by
    intro m n sh a T ws hc hks t0 t1 t5 t6 t7
    have hk1 := wsOf_k1 hk hks
    have ha : b.length ≤ a := List.getElem?_eq_none_iff.1 hc
    rw [runScope_succ]
    simp (disch := (first | omega | simp (disch := omega) [isRd, rdRow, hk])) [scB, scopeOf, tlC, Try.f64, rdRow, t0, t1, t5, t6, t7, q, hk, hkp, ha, fail_at, hk1, -getElem?_pos]
  intro left
  induction left with
  | zero =>
    intro m n sh a T ws hm hs n0 n1 hks t0 t1 t5 t6 t7
    have hk1 := wsOf_k1 hk hks
    have hk2 := wsOf_k2 hk hks
    unfold numF
    cases hc : b[a]? with
    | none => exact stepE m n sh a T ws hc hks t0 t1 t5 t6 t7
    | some c =>
      by_cases c1 : 128 ≤ c
      · have ha : a < b.length := (List.getElem?_eq_some_iff.1 hc).1
        have ha' : ¬ b.length ≤ a := by omega
        have c0 := hb c (List.mem_of_getElem? hc)
        have hand := u8_and' c c0.1 c0.2
        have hsn : ¬ ((sh : Nat) : Int) < 0 := by omega
        have hmin : min sh IntKind.i64.bits = sh := Nat.min_eq_left (by show sh ≤ 64; omega)
        have hsh : sh = 28 := by omega
        obtain ⟨hw, hor⟩ := or_shl n0 n1 (show 0 ≤ c % 128 by omega) (show c % 128 < 128 by omega) (show sh ≤ 28 by omega)
        rw [runScope_succ]
        simp (disch := (first | omega | simp (disch := omega) [isRd, rdRow, hk])) [scB, scopeOf, tlC, Try.f64, rdRow, t0, t1, t5, t6, t7, q, hk, hkp, ha', hc, c1, fail_at, hk1, hk2, wrap_i64, hmin, hand, hw, hor, hsh, hsn, -getElem?_pos]
      · rw [stepN m n sh a T ws c hc (by omega) (by omega) n0 n1 hks t0 t1 t5 t6 t7]
        simp only [c1, if_false]
        split
        · rfl
        · split <;> rfl
  | succ left ih =>
    intro m n sh a T ws hm hs n0 n1 hks t0 t1 t5 t6 t7
    have hk1 := wsOf_k1 hk hks
    have hk2 := wsOf_k2 hk hks
    unfold numF
    cases hc : b[a]? with
    | none => exact stepE m n sh a T ws hc hks t0 t1 t5 t6 t7
    | some c =>
      by_cases c1 : 128 ≤ c
      · have ha : a < b.length := (List.getElem?_eq_some_iff.1 hc).1
        have ha' : ¬ b.length ≤ a := by omega
        have c0 := hb c (List.mem_of_getElem? hc)
        have hand := u8_and' c c0.1 c0.2
        have hsn : ¬ ((sh : Nat) : Int) < 0 := by omega
        have hmin : min sh IntKind.i64.bits = sh := Nat.min_eq_left (by show sh ≤ 64; omega)
        have hsh : sh < 28 := by omega
        have hshI : ((sh : Nat) : Int) < 28 := by omega
        obtain ⟨hw, hor⟩ := or_shl n0 n1 (show 0 ≤ c % 128 by omega) (show c % 128 < 128 by omega) (show sh ≤ 28 by omega)
        obtain ⟨m', rfl⟩ : ∃ m', m = m' + 1 := ⟨m - 1, by omega⟩
        have hn1 : n + c % 128 * 2 ^ sh < 2 ^ (sh + 7) := by
          have hp : (2 : Int) ^ (sh + 7) = 128 * 2 ^ sh := by rw [Int.pow_add]; show (2 : Int) ^ sh * 128 = _; omega
          rw [hp]
          have : c % 128 * 2 ^ sh ≤ 127 * 2 ^ sh := Int.mul_le_mul_of_nonneg_right (by omega) (by omega)
          omega
        have hn0 : 0 ≤ n + c % 128 * 2 ^ sh := by
          have : 0 ≤ c % 128 * 2 ^ sh := Int.mul_nonneg (by omega) (by omega)
          omega
        have key := fun T ws h1 h2 h3 h4 h5 h6 => ih m' (n + c % 128 * 2 ^ sh) (sh + 7) (a + 1) T ws (by omega) (by omega) hn0 hn1 h1 h2 h3 h4 h5 h6
        simp [scB, scopeOf, tlC, Try.f64, rdRow] at key
        rw [runScope_succ]
        simp (disch := (first | omega | simp (disch := omega) [isRd, rdRow, hk])) [scB, scopeOf, tlC, Try.f64, rdRow, t0, t1, t5, t6, t7, q, hk, hkp, ha', hc, c1, hk1, hk2, wrap_i64, hmin, hand, hw, hor, hsh, hshI, hsn, scopeK_goto, gotoK, findLabel, -getElem?_pos]
        refine key _ _ (ks_snoc hks) ?_ ?_ ?_ ?_ ?_ <;> simp [t0, t1, t7]
      · rw [stepN m n sh a T ws c hc (by omega) (by omega) n0 n1 hks t0 t1 t5 t6 t7]
        simp only [c1, if_false]
        split
        · rfl
        · split <;> rfl

/-- What a number out of bytes is, and where the reader is behind it. -/
def numR (b : List Int) (most : Int) (r : Rd) : Int × Rd := if r.code = 0 then numF b most r.at_ r.eat 4 0 0 r.at_ else (0, r)

/-- Bytes, not too many. -/
def Byt (b : List Int) : Prop := Fit b ∧ ∀ c, c ∈ b → 0 ≤ c ∧ c < 256

theorem number_at (H : Heap) (k : Nat) (most : Int) (hr : isRd (rowAt H k 1)) (hb' : Byt (rdB (rowAt H k 1))) (h0 : (rdOf (rowAt H k 1)).code = 0) :
    CX 64 [.one (.ptr k 1 0 0), I most] H = some (I (numR (rdB (rowAt H k 1)) most (rdOf (rowAt H k 1))).1, H.set k (some (.row 4 [rdRow (rdB (rowAt H k 1)) (numR (rdB (rowAt H k 1)) most (rdOf (rowAt H k 1))).2])), [k]) := by
  obtain ⟨hk, b, r, e1, e2⟩ := rd_upd hr
  obtain ⟨a, c, e⟩ := r
  rw [e1, rdOf_row] at h0
  rw [e1, rdB_row] at hb'
  obtain ⟨hf, hb⟩ := hb'
  rw [e1, e2, rdOf_row, rdB_row]
  simp only at h0
  subst h0
  simp only [numR, if_true]
  have q := qt64
  simp [Try.f64, quietFn, quietRegs] at q
  have r0 : ∀ sc, run Try.prog cfg sc 86 H.length (cfg.live 64) (hdC (bdB Try.f64)) ⟨[(0, .one (.ptr k 1 0 0)), (1, I most)], updH H k 4 [rdRow b ⟨a, 0, e⟩], []⟩
      = some (.normal, ⟨[(4, I 0), (0, .one (.ptr k 1 0 0)), (1, I most)], updH H k 4 [rdRow b ⟨a, 0, e⟩], []⟩) := fun sc => by
    simp [hdC, bdB, Try.f64]
  have r1 : ∀ sc, run Try.prog cfg sc 86 H.length (cfg.live 64) (hdC (scB Try.f64)) ⟨[(4, I 0), (0, .one (.ptr k 1 0 0)), (1, I most)], updH H k 4 [rdRow b ⟨a, 0, e⟩], []⟩
      = some (.normal, ⟨[(7, I a), (6, I 0), (5, I 0), (12, I a), (11, .one (.ptr k 1 0 1)), (10, .one (.ptr k 1 0 0)), (9, .one (.ptr k 1 0 0)), (4, I 0), (0, .one (.ptr k 1 0 0)), (1, I most)], updH H k 4 [rdRow b ⟨a, 0, e⟩], []⟩) := fun sc => by
    simp (disch := omega) [hdC, scB, scopeOf, Try.f64, q, rdRow, hk]
  have key := num_go H k hk b hf hb most a e 4 5 0 0 a [(7, I a), (6, I 0), (5, I 0), (12, I a), (11, .one (.ptr k 1 0 1)), (10, .one (.ptr k 1 0 0)), (9, .one (.ptr k 1 0 0)), (4, I 0), (0, .one (.ptr k 1 0 0)), (1, I most)] [] (by omega) (by omega) (by omega) (by decide) (fun x hx => by simp at hx) rfl rfl rfl rfl rfl
  rw [runScope_succ, run_seq, run_skip, seqK_normal] at key
  refine CI_of (body := .seq (hdC (bdB Try.f64)) (.scope (.seq (hdC (scB Try.f64)) (.seq (.label 0) (tlC (tlC (scB Try.f64))))))) Try.func64 rfl 5 ?_
  show finish _ _ _ _ (updH H k 4 [rdRow b ⟨a, 0, e⟩]).length (run _ _ (runScope _ _ 86 (updH H k 4 [rdRow b ⟨a, 0, e⟩]).length _ 5) 86 (updH H k 4 [rdRow b ⟨a, 0, e⟩]).length _ _ ⟨[(0, .one (.ptr k 1 0 0)), (1, I most)], updH H k 4 [rdRow b ⟨a, 0, e⟩], []⟩) = _
  rw [upd_length, run_seq, r0, seqK_normal, run_scope, run_seq, r1, seqK_normal, run_seq, run_label, seqK_normal, upd_set]
  exact key
theorem number_no (H : Heap) (k : Nat) (most : Int) (hr : isRd (rowAt H k 1)) (h0 : ¬ (rdOf (rowAt H k 1)).code = 0) :
    CX 64 [.one (.ptr k 1 0 0), I most] H = some (I 0, H, []) := by
  obtain ⟨hk, b, r, e1, e2⟩ := rd_upd hr
  rw [e1, rdOf_row] at h0
  rw [e2]
  have q := qt64
  simp [Try.f64, quietFn, quietRegs] at q
  refine CI_of Try.func64 rfl 0 ?_
  have hkp : cfg.keep 64 = 0 := rfl
  have h0' : (r.code == 0) = false := by simpa using h0
  have h0'' : (r.code != 0) = true := by simp [h0]
  simp (disch := omega) [Try.f64, rdRow, hkp, h0', h0'', hk, q]
end Go.Proofs.Ytdkknhpdjcdmfaa.Abs

/- Maps out of bytes: numbers that rise. -/
set_option linter.unusedSimpArgs false
set_option linter.unusedVariables false
namespace Go.Proofs.Ytdkknhpdjcdmfaa.Abs
open Go Go.RowKit Go.Proofs

theorem pow2_nonneg (sh : Nat) : (0 : Int) ≤ 2 ^ sh := Int.le_of_lt (Int.pow_pos (by omega))
theorem numF_le (b : List Int) (hb : Byt b) (most : Int) (frm : Nat) (e : Int) : ∀ (left : Nat) (n : Int) (sh a : Nat), 0 ≤ n → 0 ≤ (numF b most frm e left n sh a).1 ∧ (0 ≤ most → (numF b most frm e left n sh a).1 ≤ most) := by
  intro left
  induction left with
  | zero =>
    intro n sh a n0
    unfold numF
    split
    · exact ⟨by simp, fun h => by simpa using h⟩
    · rename_i c hc
      have c0 := hb.2 c (List.mem_of_getElem? hc)
      split
      · exact ⟨by simp, fun h => by simpa using h⟩
      · split
        · exact ⟨by simp, fun h => by simpa using h⟩
        · split
          · exact ⟨by simp, fun h => by simpa using h⟩
          · have := Int.mul_nonneg c0.1 (pow2_nonneg sh)
            exact ⟨by simp only; omega, fun h => by simp only; omega⟩
  | succ left ih =>
    intro n sh a n0
    unfold numF
    split
    · exact ⟨by simp, fun h => by simpa using h⟩
    · rename_i c hc
      have c0 := hb.2 c (List.mem_of_getElem? hc)
      split
      · exact ih _ _ _ (by
          have := Int.mul_nonneg (show 0 ≤ c % 128 by omega) (pow2_nonneg sh)
          omega)
      · split
        · exact ⟨by simp, fun h => by simpa using h⟩
        · split
          · exact ⟨by simp, fun h => by simpa using h⟩
          · have := Int.mul_nonneg c0.1 (pow2_nonneg sh)
            exact ⟨by simp only; omega, fun h => by simp only; omega⟩
theorem numR_le {b : List Int} (hb : Byt b) {most : Int} (hm : 0 ≤ most) (r : Rd) : 0 ≤ (numR b most r).1 ∧ (numR b most r).1 ≤ most := by
  unfold numR
  split
  · have := numF_le b hb most r.at_ r.eat 4 0 0 r.at_ (by omega)
    exact ⟨this.1, this.2 hm⟩
  · exact ⟨by simp, by simpa using hm⟩

def failR (r : Rd) (c n : Int) : Rd := if r.code = 0 then ⟨r.at_, c, n⟩ else r
/-- Numbers that rise out of bytes: none, if one is too great. -/
def rlG (b : List Int) (size : Int) : Nat → Int → List Int → Rd → Option (List Int) × Rd
  | 0, _, acc, r => (some acc, r)
  | n + 1, last, acc, r => if r.code = 0 then
      (if size ≤ last + ((numR b 4096 r).1 + 1) then (none, failR (numR b 4096 r).2 18 r.at_) else rlG b size n (last + ((numR b 4096 r).1 + 1)) (acc ++ [last + ((numR b 4096 r).1 + 1)]) (numR b 4096 r).2)
    else (some acc, r)
def lstR (b : List Int) (size : Int) (r : Rd) : List Int × Rd :=
  (((rlG b size (numR b size r).1.toNat (-1) [] (numR b size r).2).1).getD [], (rlG b size (numR b size r).1.toNat (-1) [] (numR b size r).2).2)

def rlS (h : Heap) (k : Nat) (b : List Int) (size : Int) (s : Nat × Int × List Int × Rd) : St :=
  ⟨[(0, .one (.ptr k 1 0 0)), (1, I size), (7, I (s.1 : Nat)), (6, I s.2.1), (5, .one (.sl h.length 1 s.2.2.1.length 0 s.2.2.1.length)), (4, .one (.sl (h.length + 1) 1 0 0 0))], updH h k 4 [rdRow b s.2.2.2] ++ [some (.row 1 (intsOf s.2.2.1)), some (.row 1 [])], [k]⟩
theorem rl_loop (h : Heap) (k : Nat) (hk : k < h.length) (b : List Int) (hb : Byt b) (size : Int) (hs0 : 0 ≤ size) (hs : size ≤ 1048576) (n : Nat) (hn : n ≤ 1048576) (r : Rd) :
    ∃ s' x, lpK 66 Try.f66 46 0 h (rlS h k b size (n, -1, [], r)) = some (x, rlS h k b size s') ∧ s'.2.2.2 = (rlG b size n (-1) [] r).2 ∧ ((x = .exit 0 ∧ (rlG b size n (-1) [] r).1 = some s'.2.2.1) ∨ (x = .ret ∧ (rlG b size n (-1) [] r).1 = none)) := by
  have key := loop_rel (P := Try.prog) (C := cfg) (sc := runScope Try.prog cfg 46 h.length (cfg.live 66) 0) (N := 46) (n0 := h.length) (K := cfg.live 66) (c := loopAt Try.f66 0) (rlS h k b size)
    (fun s => s.1 ≤ 1048576 ∧ -1 ≤ s.2.1 ∧ s.2.1 < size ∧ s.2.2.1.length + s.1 ≤ 2097152) (fun s => s.1)
    (fun s q => ∃ s', q.2 = rlS h k b size s' ∧ s'.2.2.2 = (rlG b size s.1 s.2.1 s.2.2.1 s.2.2.2).2 ∧ ((q.1 = .exit 0 ∧ (rlG b size s.1 s.2.1 s.2.2.1 s.2.2.2).1 = some s'.2.2.1) ∨ (q.1 = .ret ∧ (rlG b size s.1 s.2.1 s.2.2.1 s.2.2.2).1 = none))) ?_ (n, -1, [], r) ⟨hn, by simp, by simp only; omega, by simp; omega⟩
  · obtain ⟨⟨x, st⟩, h1, s', h2, h3, h4⟩ := key
    simp only at h2
    subst h2
    exact ⟨s', x, h1, h3, h4⟩
  rintro ⟨n, last, acc, r⟩ ⟨j1, j2, j3, j4⟩
  simp only at j1 j2 j3 j4 ⊢
  have hk' : ¬ h.length ≤ k := by omega
  obtain ⟨a, c, e⟩ := r
  cases n with
  | zero =>
    refine .inr ⟨(.exit 0, rlS h k b size (0, last, acc, ⟨a, c, e⟩)), ?_, nofun, _, rfl, rfl, .inl ⟨rfl, rfl⟩⟩
    simp (disch := omega) [round_eq, rlS, rdRow, Try.f66, lv66, hk, hk', -getElem?_pos]
  | succ n =>
    have hnI : (0 : Int) < ((n : Nat) : Int) + 1 := by omega
    by_cases hc : c = 0
    · subst hc
      have hx := numR_le hb (show (0 : Int) ≤ 4096 by omega) ⟨a, 0, e⟩
      have hg : rlG b size (n + 1) last acc ⟨a, 0, e⟩ = if size ≤ last + ((numR b 4096 ⟨a, 0, e⟩).1 + 1) then (none, failR (numR b 4096 ⟨a, 0, e⟩).2 18 a) else rlG b size n (last + ((numR b 4096 ⟨a, 0, e⟩).1 + 1)) (acc ++ [last + ((numR b 4096 ⟨a, 0, e⟩).1 + 1)]) (numR b 4096 ⟨a, 0, e⟩).2 := by
        simp only [rlG, if_true]
      rw [hg]
      by_cases hl : size ≤ last + ((numR b 4096 ⟨a, 0, e⟩).1 + 1)
      · rw [if_pos hl]
        by_cases hc1 : (numR b 4096 ⟨a, 0, e⟩).2.code = 0
        · refine .inr ⟨(.ret, rlS h k b size (n + 1, last + ((numR b 4096 ⟨a, 0, e⟩).1 + 1), acc, failR (numR b 4096 ⟨a, 0, e⟩).2 18 a)), ?_, nofun, _, rfl, rfl, .inr ⟨rfl, rfl⟩⟩
          simp (disch := (first | omega | simp (disch := omega) [rdRow, hk, hb, hc1])) [round_eq, rlS, rdRow, Try.f66, lv66, hk, hk', hnI, hl, hc1, wrap_i64, number_at, fail_at, failR, -getElem?_pos]
        · refine .inr ⟨(.ret, rlS h k b size (n + 1, last + ((numR b 4096 ⟨a, 0, e⟩).1 + 1), acc, failR (numR b 4096 ⟨a, 0, e⟩).2 18 a)), ?_, nofun, _, rfl, rfl, .inr ⟨rfl, rfl⟩⟩
          simp (disch := (first | omega | simp (disch := omega) [rdRow, hk, hb, hc1])) [round_eq, rlS, rdRow, Try.f66, lv66, hk, hk', hnI, hl, hc1, wrap_i64, number_at, fail_no, failR, -getElem?_pos]
      · rw [if_neg hl]
        refine .inl ⟨(n, last + ((numR b 4096 ⟨a, 0, e⟩).1 + 1), acc ++ [last + ((numR b 4096 ⟨a, 0, e⟩).1 + 1)], (numR b 4096 ⟨a, 0, e⟩).2), ?_, ⟨by omega, by simp only; omega, by simp only; omega, by simp; omega⟩, by simp, fun q hq => hq⟩
        simp (disch := (first | omega | simp (disch := omega) [rdRow, hk, hb])) [round_eq, rlS, rdRow, Try.f66, lv66, hk, hk', hnI, hl, wrap_i64, room_of, number_at, intsOf_snoc, -getElem?_pos]
    · have hcb : (c == 0) = false := by simpa using hc
      refine .inr ⟨(.exit 0, rlS h k b size (n + 1, last, acc, ⟨a, c, e⟩)), ?_, nofun, _, rfl, by simp [rlG, hc], .inl ⟨rfl, by simp [rlG, hc]⟩⟩
      simp (disch := omega) [round_eq, rlS, rdRow, Try.f66, lv66, hk, hk', hnI, hcb, -getElem?_pos]

theorem list_rd (H : Heap) (k : Nat) (size : Int) (hs0 : 0 ≤ size) (hs : size ≤ 1048576) (hr : isRd (rowAt H k 1)) (hb : Byt (rdB (rowAt H k 1))) (h0 : (rdOf (rowAt H k 1)).code = 0) :
    CX 66 [.one (.ptr k 1 0 0), I size] H = some (Sl (intsOf (lstR (rdB (rowAt H k 1)) size (rdOf (rowAt H k 1))).1), H.set k (some (.row 4 [rdRow (rdB (rowAt H k 1)) (lstR (rdB (rowAt H k 1)) size (rdOf (rowAt H k 1))).2])), [k]) := by
  obtain ⟨hk, b, r, e1, e2⟩ := rd_upd hr
  obtain ⟨a, c, e⟩ := r
  rw [e1, rdOf_row] at h0
  rw [e1, rdB_row] at hb
  rw [e1, e2, rdOf_row, rdB_row]
  simp only at h0
  subst h0
  have hk' : ¬ H.length ≤ k := by omega
  have hx := numR_le hb hs0 ⟨a, 0, e⟩
  obtain ⟨⟨n', last', acc', r'⟩, x, g1, g2, g3⟩ := rl_loop H k hk b hb size hs0 hs (numR b size ⟨a, 0, e⟩).1.toNat (by omega) (numR b size ⟨a, 0, e⟩).2
  simp only at g2 g3
  have hmx : max (numR b size ⟨a, 0, e⟩).1 0 = (numR b size ⟨a, 0, e⟩).1 := by omega
  refine CI_of Try.func66 rfl 0 ?_
  have hkp : cfg.keep 66 = 0 := rfl
  simp [rlS, rdRow, lpK, lv66, Try.f66, hmx] at g1
  simp only [lstR]
  rw [← g2]
  rcases g3 with ⟨rfl, g4⟩ | ⟨rfl, g4⟩
  · rw [g4]
    simp (disch := (first | omega | simp (disch := omega) [rdRow, hk, hb])) [Try.f66, lv66, rdRow, number_at, g1, hkp, hk, hk', -getElem?_pos]
  · rw [g4]
    simp (disch := (first | omega | simp (disch := omega) [rdRow, hk, hb])) [Try.f66, lv66, rdRow, number_at, g1, hkp, hk, hk', -getElem?_pos]
theorem list_no (H : Heap) (k : Nat) (size : Int) (hr : isRd (rowAt H k 1)) (h0 : ¬ (rdOf (rowAt H k 1)).code = 0) :
    CX 66 [.one (.ptr k 1 0 0), I size] H = some (Sl (intsOf []), H, []) := by
  obtain ⟨hk, b, r, e1, e2⟩ := rd_upd hr
  rw [e1, rdOf_row] at h0
  rw [e2]
  have hk' : ¬ H.length ≤ k := by omega
  have hkp : cfg.keep 66 = 0 := rfl
  have e : lpK 66 Try.f66 46 0 H ⟨[(0, .one (.ptr k 1 0 0)), (1, I size), (7, I 0), (6, I (-1)), (5, .one (.sl H.length 1 0 0 0)), (4, .one (.sl (H.length + 1) 1 0 0 0))], updH H k 4 [rdRow b r] ++ [some (.row 1 []), some (.row 1 [])], []⟩
      = some (.exit 0, ⟨[(0, .one (.ptr k 1 0 0)), (1, I size), (7, I 0), (6, I (-1)), (5, .one (.sl H.length 1 0 0 0)), (4, .one (.sl (H.length + 1) 1 0 0 0))], updH H k 4 [rdRow b r] ++ [some (.row 1 []), some (.row 1 [])], []⟩) := by
    refine iterI_last ?_ nofun
    simp (disch := omega) [round_eq, rdRow, Try.f66, lv66, hk, hk', -getElem?_pos]
  simp [rdRow, lpK, lv66, Try.f66] at e
  refine CI_of Try.func66 rfl 0 ?_
  simp (disch := (first | omega | simp (disch := omega) [rdRow, hk, h0])) [Try.f66, lv66, rdRow, number_no, e, hkp, hk, hk', -getElem?_pos]
end Go.Proofs.Ytdkknhpdjcdmfaa.Abs

/- Maps out of bytes: the sizes. -/
set_option linter.unusedSimpArgs false
set_option linter.unusedVariables false
namespace Go.Proofs.Ytdkknhpdjcdmfaa.Abs
open Go Go.RowKit Go.Proofs

/-- Sizes out of bytes. -/
def szG (b : List Int) : Nat → List Int → Rd → List Int × Rd
  | 0, acc, r => (acc, r)
  | n + 1, acc, r => if r.code = 0 then szG b n (acc ++ [(numR b 4096 r).1]) (numR b 4096 r).2 else (acc, r)

def rsS (h : Heap) (b : List Int) (s : Nat × List Int × Rd) : St :=
  ⟨[(0, Sl (u8sOf b)), (4, .one (.ptr h.length 1 0 0)), (6, I (s.1 : Nat)), (5, .one (.ptr (h.length + 1) 1 0 0)), (8, .junk), (7, .junk), (10, .junk), (103, .junk), (102, .junk), (101, .junk), (118, .junk), (117, .junk), (2, .one (.ptr (h.length + 5) 1 0 0)), (3, .one (.ptr (h.length + 6) 1 0 0))],
    h ++ [some (.row 4 [rdRow b s.2.2]), some (.row 2 [[.sl (h.length + 2) 1 s.2.1.length 0 s.2.1.length, .sl (h.length + 3) 4 0 0 0]]), some (.row 1 (intsOf s.2.1)), some (.row 4 []), none, some (.row 2 [[.nils, .nils]]), some (.row 2 [[.int .i64 0, .int .i64 0]])], []⟩
theorem rs_loop (h : Heap) (b : List Int) (hb : Byt b) (n : Nat) (hn : n ≤ 1048576) (r : Rd) :
    ∃ n', lpK 27 Try.f27 197 0 h (rsS h b (n, [], r)) = some (.exit 0, rsS h b (n', (szG b n [] r).1, (szG b n [] r).2)) := by
  have d := dt27
  simp [Try.f27, infoFn, infoRegs] at d
  have key := loop_rel (P := Try.prog) (C := cfg) (sc := runScope Try.prog cfg 197 h.length (cfg.live 27) 0) (N := 197) (n0 := h.length) (K := cfg.live 27) (c := loopAt Try.f27 0) (rsS h b)
    (fun s => s.1 ≤ 1048576 ∧ s.2.1.length + s.1 ≤ 2097152) (fun s => s.1)
    (fun s q => ∃ n', q = (.exit 0, rsS h b (n', (szG b s.1 s.2.1 s.2.2).1, (szG b s.1 s.2.1 s.2.2).2))) ?_ (n, [], r) ⟨hn, by simp; omega⟩
  · obtain ⟨q, h1, n', rfl⟩ := key
    exact ⟨n', h1⟩
  rintro ⟨n, acc, a, c, e⟩ ⟨j1, j4⟩
  simp only at j1 j4 ⊢
  cases n with
  | zero =>
    refine .inr ⟨(.exit 0, rsS h b (0, acc, ⟨a, c, e⟩)), ?_, nofun, _, rfl⟩
    simp (disch := omega) [round_eq, rsS, rdRow, Try.f27, lv27, -getElem?_pos]
  | succ n =>
    have hnI : (0 : Int) < ((n : Nat) : Int) + 1 := by omega
    by_cases hc : c = 0
    · subst hc
      refine .inl ⟨(n, acc ++ [(numR b 4096 ⟨a, 0, e⟩).1], (numR b 4096 ⟨a, 0, e⟩).2), ?_, ⟨by omega, by simp; omega⟩, by simp, ?_⟩
      · simp (disch := (first | omega | simp (disch := omega) [rdRow, hb])) [round_eq, rsS, rdRow, Try.f27, lv27, hnI, wrap_i64, room_of, number_at, intsOf_snoc, d, unOK, apartR, disjoint, cellsApart, Nat.add_assoc, -getElem?_pos]
      · rintro q ⟨n', rfl⟩
        exact ⟨n', by simp [szG]⟩
    · have hcb : (c == 0) = false := by simpa using hc
      refine .inr ⟨(.exit 0, rsS h b (n + 1, acc, ⟨a, c, e⟩)), ?_, nofun, n + 1, by simp [szG, hc]⟩
      simp (disch := omega) [round_eq, rsS, rdRow, Try.f27, lv27, hnI, hcb, -getElem?_pos]
end Go.Proofs.Ytdkknhpdjcdmfaa.Abs

/- Maps out of bytes: what is told of a safepoint. -/
set_option linter.unusedSimpArgs false
set_option linter.unusedVariables false
namespace Go.Proofs.Ytdkknhpdjcdmfaa.Abs
open Go Go.RowKit Go.Proofs

/-- Where an entry is being read: the reader, the sizes, the entries ahead (as rows), the entry, its pairs. -/
def reG (h : Heap) (b : List Int) (r : Rd) (sizes : List Int) (er : List (List Leaf)) (e : Ent) (ds : List (Int × Int)) (v6 v8 v7 v103 v102 v101 v118 v117 : V) : St :=
  ⟨[(0, Sl (u8sOf b)), (4, .one (.ptr h.length 1 0 0)), (6, v6), (5, .one (.ptr (h.length + 1) 1 0 0)), (8, v8), (7, v7), (10, .one (.ptr (h.length + 4) 1 0 0)), (103, v103), (102, v102), (101, v101), (118, v118), (117, v117), (2, .one (.ptr (h.length + 6) 1 0 0)), (3, .one (.ptr (h.length + 7) 1 0 0))],
    h ++ [some (.row 4 [rdRow b r]), some (.row 2 [[.sl (h.length + 2) 1 sizes.length 0 sizes.length, .sl (h.length + 3) 4 er.length 0 er.length]]), some (.row 1 (intsOf sizes)), some (.row 4 er),
      some (.row 4 [[.int .i64 e.n, .int .i64 e.f, .isl (intsOf e.ps), .sl (h.length + 5) 2 ds.length 0 ds.length]]), some (.row 2 (pairsOf ds)), some (.row 2 [[.nils, .nils]]), some (.row 2 [[.int .i64 0, .int .i64 0]])], []⟩

theorem pairsOf_snoc (xs : List (Int × Int)) (x y : Int) : pairsOf xs ++ [[.int .i64 x, .int .i64 y]] = pairsOf (xs ++ [(x, y)]) := by simp [pairsOf]

/-- The value of what is left of the entry ahead. -/
def leftI : Option Nat → V
  | none => .junk
  | some n => I (n : Nat)
theorem re_ders (h : Heap) (b : List Int) (r : Rd) (sizes : List Int) (er : List (List Leaf)) (her : plainR er = true) (e : Ent) (n6 n8 : Nat) (last : Int) (xs : List Int) (hx : xs.length ≤ 2097152) (l1 l2 : Option Nat) :
    lpK 27 Try.f27 197 2 h (reG h b r sizes er e [] (I (n6 : Nat)) (I (n8 : Nat)) (I last) (I (0 : Nat)) (I (xs.length : Nat)) (Sl (intsOf xs)) (leftI l1) (leftI l2))
      = some (.exit 4, reG h b r sizes er e (xs.map fun x => (x, 0)) (I (n6 : Nat)) (I (n8 : Nat)) (I last) (I (xs.length : Nat)) (I (xs.length : Nat)) (Sl (intsOf xs)) (leftI l1) (leftI l2)) := by
  have key := loop_list (P := Try.prog) (C := cfg) (sc := runScope Try.prog cfg 197 h.length (cfg.live 27) 0) (N := 197) (n0 := h.length) (K := cfg.live 27) (c := loopAt Try.f27 2) xs (fun acc x => acc ++ [(x, 0)])
    (fun i acc => reG h b r sizes er e acc (I (n6 : Nat)) (I (n8 : Nat)) (I last) (I (i : Nat)) (I (xs.length : Nat)) (Sl (intsOf xs)) (leftI l1) (leftI l2)) (fun acc => (.exit 4, reG h b r sizes er e acc (I (n6 : Nat)) (I (n8 : Nat)) (I last) (I (xs.length : Nat)) (I (xs.length : Nat)) (Sl (intsOf xs)) (leftI l1) (leftI l2))) (fun i acc => acc.length = i) ?_ ?_ [] rfl
  · rw [foldl_push] at key
    exact key
  · intro i acc x hd hl
    have hi := (List.getElem?_eq_some_iff.1 hd).1
    refine ⟨?_, by simp [hl]⟩
    subst hl
    cases l1 <;> cases l2 <;> simp (disch := omega) [round_eq, reG, leftI, rdRow, Try.f27, lv27, hd, hi, wrap_i64, room_of, pairsOf_snoc, her, -getElem?_pos]
  · intro acc hl
    refine ⟨?_, nofun⟩
    cases l1 <;> cases l2 <;> simp (disch := omega) [round_eq, reG, leftI, rdRow, Try.f27, lv27, her, -getElem?_pos]
end Go.Proofs.Ytdkknhpdjcdmfaa.Abs
