/- The abstract machine: a region that draws its order does what the machine says. -/
import Derived.Test.YtkbdhjfjbkmkcaaGreatJT22
set_option linter.unusedSimpArgs false
set_option linter.unusedVariables false
namespace Go.Proofs.YtkbdhjfjbkmkcaaGreat.Abs
open Go Go.RowKit

/-! What the checks say. -/

theorem mem_zip {α : Type} {l : List α} {j : Nat} {p : α} (h : l[j]? = some p) : (p, j) ∈ l.zipIdx := by
  rw [List.mem_zipIdx_iff_getElem?]; exact h

theorem pairsOK_spec : ∀ (all : List Rec) (i : Nat) (l : List Rec), pairsOK all i l = true → ∀ k r, l[k]? = some r → ∀ j p, all[j]? = some p → j = i + k ∨ r.before.testBit j = true ∨ p.before.testBit (i + k) = true ∨ apartR r p = true
  | all, i, [], _, k, r, hr, j, p, hp => by simp at hr
  | all, i, r0 :: l, h, k, r, hr, j, p, hp => by
    unfold pairsOK at h
    rw [Bool.and_eq_true] at h
    cases k with
    | zero =>
      cases hr
      have := List.all_eq_true.1 h.1 _ (mem_zip hp)
      simp only [Bool.or_eq_true, beq_iff_eq] at this
      rw [Nat.add_zero]
      rcases this with ((h1 | h1) | h1) | h1
      · exact .inl h1
      · exact .inr (.inl h1)
      · exact .inr (.inr (.inl h1))
      · exact .inr (.inr (.inr h1))
    | succ k =>
      have := pairsOK_spec all (i + 1) l h.2 k r (by simpa using hr) j p hp
      rwa [show i + 1 + k = i + (k + 1) by omega] at this

theorem edgesOK_spec : ∀ (l : List Oper) (i : Nat), edgesOK l i = true → ∀ k o, l[k]? = some o → ∀ e, e ∈ o.after → Region.binds .any e = true → e.on < i + k
  | [], i, _, k, o, ho, e, he, hb => by simp at ho
  | o0 :: l, i, h, k, o, ho, e, he, hb => by
    unfold edgesOK at h
    rw [Bool.and_eq_true] at h
    cases k with
    | zero =>
      cases ho
      have := Array.all_eq_true_iff_forall_mem.1 h.1 e he
      simp only [hb, Bool.not_true, Bool.false_or, decide_eq_true_eq] at this
      exact this
    | succ k =>
      have := edgesOK_spec l (i + 1) h.2 k o (by simpa using ho) e he hb
      omega

theorem takesOK_spec (bs : List Nat) (b i : Nat) (ts : List Nat) : ∀ (l : List Oper) (j : Nat), takesOK bs b i ts l j = true → ∀ k o d, l[k]? = some o → o.dst = some d → d ∈ ts → j + k = i ∨ b.testBit (j + k) = true ∨ (bs.getD (j + k) 0).testBit i = true
  | [], j, _, k, o, d, ho, _, _ => by simp at ho
  | o0 :: l, j, h, k, o, d, ho, hd, ht => by
    unfold takesOK at h
    rw [Bool.and_eq_true] at h
    cases k with
    | zero =>
      cases ho
      have := h.1
      rw [hd] at this
      simp only [Bool.or_eq_true, Bool.not_eq_true', beq_iff_eq] at this
      rw [Nat.add_zero]
      rcases this with ((h1 | h1) | h1) | h1
      · rw [List.contains_eq_mem, decide_eq_false_iff_not] at h1; exact (h1 ht).elim
      · exact .inl h1
      · exact .inr (.inl h1)
      · exact .inr (.inr h1)
    | succ k =>
      have := takesOK_spec bs b i ts l (j + 1) h.2 k o d (by simpa using ho) hd ht
      rwa [show j + 1 + k = j + (k + 1) by omega] at this

theorem nodupB_spec : ∀ (l : List Nat), nodupB l = true → l.Nodup
  | [], _ => List.nodup_nil
  | x :: l, h => by
    unfold nodupB at h
    rw [Bool.and_eq_true, Bool.not_eq_true', List.contains_eq_mem, decide_eq_false_iff_not] at h
    exact List.nodup_cons.2 ⟨h.1, nodupB_spec l h.2⟩

theorem dsts_apart {l : List Oper} (h : nodupB (l.filterMap (·.dst)) = true) {j k : Nat} {o o' : Oper} {d : Nat} (hj : l[j]? = some o) (hk : l[k]? = some o') (hne : j ≠ k) (ho : o.dst = some d) : o'.dst ≠ some d := by
  have := List.pairwise_filterMap.1 (nodupB_spec _ h)
  rw [List.pairwise_iff_getElem] at this
  intro ho'
  obtain ⟨lj, ej⟩ := List.getElem?_eq_some_iff.1 hj
  obtain ⟨lk, ek⟩ := List.getElem?_eq_some_iff.1 hk
  rcases Nat.lt_or_gt_of_ne hne with hlt | hlt
  · exact this j k lj lk hlt d (by rw [ej]; exact ho) d (by rw [ek]; exact ho') rfl
  · exact this k j lk lj hlt d (by rw [ek]; exact ho') d (by rw [ej]; exact ho) rfl

theorem foldBits (g : Nat → Nat) (j : Nat) : ∀ (L : List Edge) (s : Nat), (L.foldl (fun s e => if Region.binds .any e then s ||| 2 ^ e.on ||| g e.on else s) s).testBit j = true →
    s.testBit j = true ∨ ∃ e, e ∈ L ∧ Region.binds .any e = true ∧ (j = e.on ∨ (g e.on).testBit j = true)
  | [], s, h => .inl h
  | e :: L, s, h => by
    rw [List.foldl_cons] at h
    rcases foldBits g j L _ h with h1 | ⟨e', h1, h2, h3⟩
    · split at h1
      · rename_i hb
        rw [Nat.testBit_or, Nat.testBit_or, Bool.or_eq_true, Bool.or_eq_true, Nat.testBit_two_pow] at h1
        rcases h1 with (h1 | h1) | h1
        · exact .inl h1
        · exact .inr ⟨e, List.mem_cons_self, hb, .inl (by simpa [eq_comm] using h1)⟩
        · exact .inr ⟨e, List.mem_cons_self, hb, .inr h1⟩
      · exact .inl h1
    · exact .inr ⟨e', List.mem_cons_of_mem _ h1, h2, h3⟩

theorem befores_prefix : ∀ (l : List Oper) (acc : List Nat), ∃ r, befores l acc = acc ++ r ∧ r.length = l.length
  | [], acc => ⟨[], by simp [befores], rfl⟩
  | o :: l, acc => by
    obtain ⟨r, h1, h2⟩ := befores_prefix l (acc ++ [o.after.toList.foldl (fun s e => if Region.binds .any e then s ||| 2 ^ e.on ||| acc.getD e.on 0 else s) 0])
    exact ⟨_ :: r, by rw [befores, h1, List.append_assoc]; rfl, by simp [h2]⟩

theorem befores_spec : ∀ (l : List Oper) (acc : List Nat) (k : Nat) (o : Oper), l[k]? = some o → ∀ j, ((befores l acc).getD (acc.length + k) 0).testBit j = true →
    ∃ e, e ∈ o.after ∧ Region.binds .any e = true ∧ (j = e.on ∨ ((befores l acc).getD e.on 0).testBit j = true)
  | [], acc, k, o, ho, j, h => by simp at ho
  | o0 :: l, acc, 0, o, ho, j, h => by
    cases ho
    obtain ⟨r, h1, h2⟩ := befores_prefix l (acc ++ [o0.after.toList.foldl (fun s e => if Region.binds .any e then s ||| 2 ^ e.on ||| acc.getD e.on 0 else s) 0])
    have hb : befores (o0 :: l) acc = acc ++ (o0.after.toList.foldl (fun s e => if Region.binds .any e then s ||| 2 ^ e.on ||| acc.getD e.on 0 else s) 0) :: r := by rw [befores, h1, List.append_assoc]; rfl
    rw [hb] at h ⊢
    rw [Nat.add_zero, List.getD, List.getElem?_append_right (Nat.le_refl _), Nat.sub_self, List.getElem?_cons_zero, Option.getD_some] at h
    rcases foldBits (fun k => acc.getD k 0) j _ _ h with h3 | ⟨e, h3, h4, h5⟩
    · simp at h3
    · refine ⟨e, by simpa using h3, h4, h5.imp id fun h6 => ?_⟩
      rcases Nat.lt_or_ge e.on acc.length with hl | hl
      · rw [List.getD, List.getElem?_append_left hl]; exact h6
      · rw [List.getD, List.getElem?_eq_none hl] at h6; simp at h6
  | o0 :: l, acc, k + 1, o, ho, j, h => by
    rw [befores] at h ⊢
    refine befores_spec l _ k o (by simpa using ho) j ?_
    rw [List.length_append, List.length_singleton, show acc.length + 1 + k = acc.length + (k + 1) by omega]
    exact h

theorem befores_lower {l : List Oper} (he : edgesOK l 0 = true) : ∀ (i j : Nat), ((befores l []).getD i 0).testBit j = true → j < i := by
  intro i
  induction i using Nat.strongRecOn with
  | _ i ih =>
    intro j h
    cases ho : l[i]? with
    | none =>
      obtain ⟨r, h1, h2⟩ := befores_prefix l []
      have hl : l.length ≤ i := by simpa using ho
      rw [h1, List.nil_append, List.getD, List.getElem?_eq_none (by omega)] at h
      simp at h
    | some o =>
      obtain ⟨e, h1, h2, h3⟩ := befores_spec l [] i o ho j (by simpa using h)
      have hlt := edgesOK_spec l 0 he i o ho e h1 h2
      rw [Nat.zero_add] at hlt
      rcases h3 with rfl | h3
      · exact hlt
      · exact Nat.lt_trans (ih e.on hlt j h3) hlt

/-! Two steps, neither ahead of the other. -/

theorem disjoint_spec {a b : List Nat} (h : disjoint a b = true) {x : Nat} (hx : x ∈ a) : x ∉ b := by
  have := List.all_eq_true.1 h x hx
  simpa using this

section
variable {P : Program} {cf : CF}

theorem cells_eff {a b : Step} (ha : StepCore P cf a) (hb : StepCore P cf b) (h : cellsApart a.r.cell b.r.cell = true) :
    ∃ i e o x j f p y, a.eff = cellE i e o x ∧ b.eff = cellE j f p y ∧ (i ≠ j ∨ e ≠ f ∨ o + x.length ≤ p ∨ p + y.length ≤ o) ∧ a.r.cell ≠ none ∧ b.r.cell ≠ none := by
  unfold cellsApart at h
  split at h
  · rename_i i e o n j f p m h1 h2
    obtain ⟨x, x1, x2⟩ := ha.cellk _ _ _ _ h1
    obtain ⟨y, y1, y2⟩ := hb.cellk _ _ _ _ h2
    refine ⟨i, e, o, x, j, f, p, y, x2, y2, ?_, by rw [h1]; nofun, by rw [h2]; nofun⟩
    simp only [Bool.or_eq_true, bne_iff_ne, decide_eq_true_eq] at h
    subst x1 y1
    rcases h with ((h | h) | h) | h
    · exact .inl h
    · exact .inr (.inl h)
    · exact .inr (.inr (.inl h))
    · exact .inr (.inr (.inr h))
  · cases h

theorem apart_comm {a b : Step} (ha : StepCore P cf a) (hb : StepCore P cf b) (h : apartR a.r b.r = true) (id : Nat) (o : Option AO) : b.eff id (a.eff id o) = a.eff id (b.eff id o) := by
  unfold apartR at h
  simp only [Bool.and_eq_true, Bool.or_eq_true] at h
  rcases h.1.1 with h1 | h1
  · by_cases hi : id ∈ a.r.touched
    · have hn := disjoint_spec h1 hi
      rw [hb.off id hn, hb.off id hn]
    · rw [ha.off id hi, ha.off id hi]
  · obtain ⟨i, e, p, x, j, f, q, y, h2, h3, h4, _, _⟩ := cells_eff ha hb h1
    rw [h2, h3]
    exact cellE_comm h4 id o

theorem apart_D {a b : Step} (ha : StepCore P cf a) (hb : StepCore P cf b) (h : apartR a.r b.r = true) {id : Nat} (hd : a.D id) (o : Option AO) : b.eff id o = o := by
  unfold apartR at h
  simp only [Bool.and_eq_true] at h
  obtain ⟨⟨h1, h2⟩, h3⟩ := h
  refine hb.off id ?_ o
  cases hc : a.r.call with
  | true =>
    rw [hc, if_pos rfl] at h2
    intro hm
    have := List.all_eq_true.1 h2 id hm
    exact ((ha.dread id hd).2 hc) (by simpa using this)
  | false =>
    rw [hc] at h2
    simp only [Bool.false_eq_true, if_false] at h2
    rcases (ha.dread id hd).1 hc with h4 | h4
    · exact disjoint_spec h2 h4
    · rw [Bool.or_eq_true] at h1
      rcases h1 with h5 | h5
      · exact disjoint_spec h5 h4
      · obtain ⟨_, _, _, _, _, _, _, _, _, _, _, h6, _⟩ := cells_eff ha hb h5
        exact (ha.cellD h6 id hd).elim

theorem apart_shape {a b : Step} (ha : StepCore P cf a) (hb : StepCore P cf b) (h : apartR a.r b.r = true) {id sz e n : Nat} (hs : a.shape = some (id, sz, e, n)) (o : Option AO) : SameShape (b.eff id o) o := by
  unfold apartR at h
  simp only [Bool.and_eq_true, Bool.or_eq_true] at h
  rcases h.1.1 with h1 | h1
  · rw [hb.off id (disjoint_spec h1 (ha.shapeT _ _ _ _ hs))]; exact .inl rfl
  · obtain ⟨_, _, _, _, _, _, _, _, _, h2, _, _, _⟩ := cells_eff ha hb h1
    rw [h2]; exact cellE_shape ..

theorem eff_shape {a : Step} (ha : StepCore P cf a) {id : Nat} {x y : Option AO} (h : SameShape x y) : SameShape (a.eff id x) (a.eff id y) := by
  rcases ha.kind with h1 | ⟨i, e, off, new, h1⟩
  · by_cases hi : id ∈ a.r.touched
    · rw [h1 id hi x y]; exact .inl rfl
    · rw [ha.off id hi, ha.off id hi]; exact h
  · rw [h1]; exact (cellE_shape ..).trans (h.trans (cellE_shape ..).symm)

/-! Chains. -/

def tEff (st : Step) : Nat → V → V := fun t v => if st.o.dst = some t then st.v else v

theorem tget_setD {N : Nat} {T : Tmps} {st : Step} (h : ∀ d, st.o.dst = some d → d < N) (t : Nat) : tget (setD N T st.o.dst st.v) t = tEff st t (tget T t) := by
  unfold setD tEff
  cases hd : st.o.dst with
  | none => rfl
  | some d =>
    simp only [h d hd, if_true, tget_cons, Option.some.injEq]

theorem chain_at {N : Nat} {ops : Array Oper} {bs : List Nat} {l : List Oper} {i : Nat} {T T' : Tmps} {h h' : Heap} {sts : List Step} (c : Chain P cf N ops bs l i T h sts T' h') : sts.length = l.length ∧
    ∀ k st, sts[k]? = some st → l[k]? = some st.o ∧ StepOK P cf ops bs (i + k) st := by
  induction c with
  | nil i T h => exact ⟨rfl, fun k st hk => by simp at hk⟩
  | cons ho hT hh ok rest ih =>
    refine ⟨by simp [ih.1], fun k st hk => ?_⟩
    cases k with
    | zero => cases hk; exact ⟨by simp [ho], ok⟩
    | succ k =>
      have := ih.2 k st (by simpa using hk)
      exact ⟨by simpa using this.1, by have := this.2; rwa [Nat.add_assoc, Nat.add_comm 1 k] at this⟩

theorem chain_pre {N : Nat} {ops : Array Oper} {bs : List Nat} {l : List Oper} {i : Nat} {T T' : Tmps} {h h' : Heap} {sts : List Step} (c : Chain P cf N ops bs l i T h sts T' h') (hd : ∀ o, o ∈ l → ∀ d, o.dst = some d → d < N) :
    (∀ k st, sts[k]? = some st → st.h = appE (runE (fun n => decide (n < i + k)) (sts.map (·.eff)) i) 0 h ∧ ∀ t, tget st.T t = runE (fun n => decide (n < i + k)) (sts.map tEff) i t (tget T t)) ∧
    h' = appE (runE (fun _ => true) (sts.map (·.eff)) i) 0 h ∧ ∀ t, tget T' t = runE (fun _ => true) (sts.map tEff) i t (tget T t) := by
  induction c with
  | nil i T h => exact ⟨fun k st hk => by simp at hk, (appE_id h).symm, fun t => rfl⟩
  | @cons o l i T T' h h' st sts ho hT hh ok rest ih =>
    have hdo : ∀ d, st.o.dst = some d → d < N := fun d hx => hd o List.mem_cons_self d (by rw [← ho]; exact hx)
    obtain ⟨i1, i2, i3⟩ := ih fun o' ho' => hd o' (List.mem_cons_of_mem _ ho')
    refine ⟨fun k st1 hk => ?_, ?_, fun t => ?_⟩
    · cases k with
      | zero =>
        cases hk
        have hf : ∀ {α : Type} (es : List (Nat → α → α)) (id : Nat) (a : α), runE (fun n => decide (n < i + 0)) es i id a = a := fun es id a => runE_none es i a fun j _ => by simp
        refine ⟨?_, fun t => by rw [hf, hT]⟩
        rw [hh, appE_congr (e' := fun _ o => o) fun id o => hf _ id o, appE_id]
      | succ k =>
        obtain ⟨k1, k2⟩ := i1 k st1 (by simpa using hk)
        have hi : decide (i < i + (k + 1)) = true := by simp
        refine ⟨?_, fun t => ?_⟩
        · rw [k1, appE_appE]
          refine appE_congr fun id o' => ?_
          simp only [List.map_cons, runE, hi, if_true]
          exact runE_congr _ _ _ fun j _ => by congr 1; simp only [eq_iff_iff]; omega
        · rw [k2, ← ho, tget_setD hdo]
          simp only [List.map_cons, runE, hi, if_true]
          exact runE_congr _ _ _ fun j _ => by congr 1; simp only [eq_iff_iff]; omega
    · rw [i2, appE_appE]
      exact appE_congr fun id o' => by simp only [List.map_cons, runE, if_true]
    · rw [i3, ← ho, tget_setD hdo]
      simp only [List.map_cons, runE, if_true]
end
end Go.Proofs.YtkbdhjfjbkmkcaaGreat.Abs
