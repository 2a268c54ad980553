/- The abstract machine: a region that draws its order does what the machine says, whatever the order. -/
import Derived.Test.YtkbdhjfjbkmkcaaGreatJT23
set_option linter.unusedSimpArgs false
set_option linter.unusedVariables false
namespace Go.Proofs.YtkbdhjfjbkmkcaaGreat.Abs
open Go Go.RowKit

theorem Inv.holes {B : Nat} {M : Mem} {H : Heap} {w : World} (h : Inv B M H w) (n : Nat) : Inv B M (H ++ List.replicate n none) w := by
  have get : ∀ (id : Nat) (o : AO), (H ++ List.replicate n none)[id]? = some (some o) ↔ H[id]? = some (some o) := by
    intro id o
    rcases Nat.lt_or_ge id H.length with hl | hl
    · rw [List.getElem?_append_left hl]
    · rw [List.getElem?_append_right hl, List.getElem?_eq_none hl, List.getElem?_replicate]
      split <;> simp
  obtain ⟨h1, h2, h3, h4, h5, h6, h7, h8, h9, h10, h11⟩ := h
  refine ⟨h1, h2, ?_, ?_, ?_, ?_, ?_, h8, by simp; omega, h10, h11⟩
  · intro id sz hb hh
    obtain ⟨esz, elems, k1, k2⟩ := h3 id sz hb hh
    exact ⟨esz, elems, (get _ _).2 k1, k2⟩
  · intro id r hh
    obtain ⟨ck, es, k⟩ := h4 id r hh
    exact ⟨ck, es, (get _ _).2 k⟩
  · intro id esz elems hh; exact h5 id esz elems ((get _ _).1 hh)
  · intro id ck es hh; exact h6 id ck es ((get _ _).1 hh)
  · intro id id' esz esz' elems elems' hb hb' k1 k2; exact h7 id id' esz esz' elems elems' hb hb' ((get _ _).1 k1) ((get _ _).1 k2)

theorem map_at {α β : Type} {f : α → β} {l : List α} {j : Nat} {e : β} (h : (l.map f)[j]? = some e) : ∃ s, l[j]? = some s ∧ f s = e := by
  rw [List.getElem?_map] at h
  exact Option.map_eq_some_iff.1 h

theorem count_set : ∀ (l : List Bool) (i : Nat), l[i]? = some false → (l.set i true).count false + 1 = l.count false
  | [], i, h => by simp at h
  | x :: l, 0, h => by
    have : x = false := by simpa using h
    subst this
    simp
  | x :: l, i + 1, h => by
    have := count_set l i (by simpa using h)
    rw [List.set_cons_succ, List.count_cons, List.count_cons]
    omega

theorem listed_set {listed : Array Bool} {i : Nat} (hi : i < listed.size) (n : Nat) : (listed.setIfInBounds i true).getD n false = (listed.getD n false || n == i) := by
  by_cases h : i = n
  · subst h; simp [hi]
  · rw [getD_set_ne false h]
    have : (n == i) = false := by simp [Ne.symm h]
    rw [this, Bool.or_false]

section
variable {P : Program} {cf : CF}

structure Facts (P : Program) (cf : CF) (N : Nat) (ops : Array Oper) (bs : List Nat) (T0 : Tmps) (h0 : Heap) (sts : List Step) : Prop where
  len : sts.length = ops.size
  step : ∀ i st, sts[i]? = some st → ops[i]? = some st.o ∧ StepOK P cf ops bs i st
  preh : ∀ i st, sts[i]? = some st → st.h = appE (runE (fun n => decide (n < i)) (sts.map (·.eff)) 0) 0 h0
  pret : ∀ i st, sts[i]? = some st → ∀ t, tget st.T t = runE (fun n => decide (n < i)) (sts.map tEff) 0 t (tget T0 t)
  pairs : ∀ (i j : Nat) (a b : Step), sts[i]? = some a → sts[j]? = some b → j ≠ i → (bs.getD i 0).testBit j = false → (bs.getD j 0).testBit i = false → apartR a.r b.r = true
  lower : ∀ i j, (bs.getD i 0).testBit j = true → j < i
  edges : ∀ i o, ops[i]? = some o → ∀ j, (bs.getD i 0).testBit j = true → ∃ e, e ∈ o.after ∧ Region.binds .any e = true ∧ (j = e.on ∨ (bs.getD e.on 0).testBit j = true)
  edgeLt : ∀ i o, ops[i]? = some o → ∀ e, e ∈ o.after → Region.binds .any e = true → e.on < i
  dst : ∀ (i j : Nat) (a b : Step) (d : Nat), sts[i]? = some a → sts[j]? = some b → i ≠ j → a.o.dst = some d → b.o.dst ≠ some d
  dstN : ∀ (i : Nat) (a : Step) (d : Nat), sts[i]? = some a → a.o.dst = some d → d < N

variable {N : Nat} {ops : Array Oper} {bs : List Nat} {T0 : Tmps} {h0 : Heap} {sts : List Step} (F : Facts P cf N ops bs T0 h0 sts)
include F

theorem Facts.unord {X : Nat → Bool} (hcl : ∀ j k, X j = true → (bs.getD j 0).testBit k = true → X k = true) {i : Nat} (hi : X i = false) (hb : ∀ j, (bs.getD i 0).testBit j = true → X j = true) {j : Nat} (hne : X j ≠ decide (j < i)) :
    j ≠ i ∧ (bs.getD i 0).testBit j = false ∧ (bs.getD j 0).testBit i = false := by
  cases hx : X j with
  | true =>
    rw [hx] at hne
    have hji : ¬ j < i := fun h => hne (by simp [h])
    refine ⟨(fun h => by subst h; rw [hx] at hi; cases hi), ?_, ?_⟩
    · cases hc : (bs.getD i 0).testBit j with
      | false => rfl
      | true => exact (hji (F.lower i j hc)).elim
    · cases hc : (bs.getD j 0).testBit i with
      | false => rfl
      | true => rw [hcl j i hx hc] at hi; cases hi
  | false =>
    rw [hx] at hne
    have hji : j < i := by
      rcases Nat.lt_or_ge j i with h | h
      · exact h
      · exact (hne (by simp; omega)).elim
    refine ⟨by omega, ?_, ?_⟩
    · cases hc : (bs.getD i 0).testBit j with
      | false => rfl
      | true => rw [hb j hc] at hx; cases hx
    · cases hc : (bs.getD j 0).testBit i with
      | false => rfl
      | true => have := F.lower j i hc; omega

theorem Facts.eqD {X : Nat → Bool} (hcl : ∀ j k, X j = true → (bs.getD j 0).testBit k = true → X k = true) {i : Nat} (hi : X i = false) (hb : ∀ j, (bs.getD i 0).testBit j = true → X j = true) {st : Step} (hst : sts[i]? = some st) {id : Nat} (hd : st.D id) :
    (appE (runE X (sts.map (·.eff)) 0) 0 h0)[id]? = st.h[id]? := by
  rw [F.preh i st hst, appE_get, appE_get]
  have : ∀ o, runE X (sts.map (·.eff)) 0 (0 + id) o = runE (fun n => decide (n < i)) (sts.map (·.eff)) 0 (0 + id) o := by
    intro o
    refine runE_rel (R := Eq) (fun _ _ _ h k => h.trans k) (fun _ _ h => h.symm) _ 0 o o ?_ rfl
    intro j e he
    obtain ⟨st', h1, rfl⟩ := map_at he
    refine ⟨fun a b h => by rw [h], fun hx a => ?_⟩
    rw [Nat.zero_add] at hx ⊢
    obtain ⟨k1, k2, k3⟩ := F.unord hcl hi hb hx
    exact apart_D (F.step i st hst).2.core (F.step j st' h1).2.core (F.pairs i j st st' hst h1 k1 k2 k3) hd a
  cases h0[id]? with
  | none => rfl
  | some o => simp only [Option.map_some, this]

theorem Facts.eqS {X : Nat → Bool} (hcl : ∀ j k, X j = true → (bs.getD j 0).testBit k = true → X k = true) {i : Nat} (hi : X i = false) (hb : ∀ j, (bs.getD i 0).testBit j = true → X j = true) {st : Step} (hst : sts[i]? = some st) {id sz e n : Nat} (hs : st.shape = some (id, sz, e, n)) :
    Shape (appE (runE X (sts.map (·.eff)) 0) 0 h0) id sz e n := by
  have hS := (F.step i st hst).2.core.shapeOK _ _ _ _ hs
  refine hS.of ?_
  obtain ⟨esz, elems, cs, h1, _, _, _⟩ := hS
  rw [F.preh i st hst, appE_get] at h1 ⊢
  obtain ⟨o, ho, ho'⟩ := Option.map_eq_some_iff.1 h1
  rw [appE_get, ho]
  refine ⟨_, _, rfl, rfl, SameShape.symm ?_⟩
  refine runE_rel (R := SameShape) (fun _ _ _ h k => h.trans k) (fun _ _ h => h.symm) _ 0 o o ?_ (.inl rfl)
  intro j e' he
  obtain ⟨st', h1, rfl⟩ := map_at he
  refine ⟨fun a b h => eff_shape (F.step j st' h1).2.core h, fun hx a => ?_⟩
  rw [Nat.zero_add] at hx ⊢
  obtain ⟨k1, k2, k3⟩ := F.unord hcl hi hb hx
  exact apart_shape (F.step i st hst).2.core (F.step j st' h1).2.core (F.pairs i j st st' hst h1 k1 k2 k3) hs a

theorem Facts.eqT {X : Nat → Bool} (hcl : ∀ j k, X j = true → (bs.getD j 0).testBit k = true → X k = true) {i : Nat} (hi : X i = false) (hb : ∀ j, (bs.getD i 0).testBit j = true → X j = true) {st : Step} (hst : sts[i]? = some st) {t : Nat} (ht : t ∈ opTmps st.o ++ guardTmp ops st.o) :
    runE X (sts.map tEff) 0 t (tget T0 t) = tget st.T t := by
  rw [F.pret i st hst]
  refine runE_rel (R := Eq) (fun _ _ _ h k => h.trans k) (fun _ _ h => h.symm) _ 0 _ _ ?_ rfl
  intro j e he
  obtain ⟨st', h1, rfl⟩ := map_at he
  refine ⟨fun a b h => by rw [h], fun hx a => ?_⟩
  rw [Nat.zero_add] at hx
  obtain ⟨k1, k2, k3⟩ := F.unord hcl hi hb hx
  have hdst : st'.o.dst ≠ some t := by
    intro hd
    have hop := (F.step j st' h1).1
    have := takesOK_spec _ _ _ _ _ 0 (F.step i st hst).2.takes j st'.o t (by simpa using hop) hd ht
    rw [Nat.zero_add] at this
    rcases this with h | h | h
    · exact k1 h
    · rw [k2] at h; cases h
    · rw [k3] at h; cases h
  simp [tEff, hdst]

theorem Facts.ins {X : Nat → Bool} (hcl : ∀ j k, X j = true → (bs.getD j 0).testBit k = true → X k = true) {i : Nat} (hi : X i = false) (hb : ∀ j, (bs.getD i 0).testBit j = true → X j = true) {st : Step} (hst : sts[i]? = some st) :
    appE (runE (fun n => X n || n == i) (sts.map (·.eff)) 0) 0 h0 = appE st.eff 0 (appE (runE X (sts.map (·.eff)) 0) 0 h0) := by
  rw [appE_appE]
  refine appE_congr fun id o => ?_
  refine runE_insert hi _ 0 o (Nat.zero_le _) (by simp [hst]) ?_
  intro j e he hij hx a
  obtain ⟨st', h1, rfl⟩ := map_at he
  rw [Nat.zero_add] at hij hx
  obtain ⟨k1, k2, k3⟩ := F.unord hcl hi hb (j := j) (by rw [hx]; simp; omega)
  exact apart_comm (F.step i st hst).2.core (F.step j st' h1).2.core (F.pairs i j st st' hst h1 k1 k2 k3) id a

theorem Facts.insT {X : Nat → Bool} {i : Nat} (hi : X i = false) {st : Step} (hst : sts[i]? = some st) (t : Nat) (a : V) :
    runE (fun n => X n || n == i) (sts.map tEff) 0 t a = tEff st t (runE X (sts.map tEff) 0 t a) := by
  refine runE_insert hi _ 0 a (Nat.zero_le _) (by simp [hst]) ?_
  intro j e he hij hx b
  obtain ⟨st', h1, rfl⟩ := map_at he
  rw [Nat.zero_add] at hij
  unfold tEff
  by_cases h2 : st.o.dst = some t
  · have h3 := F.dst i j st st' t hst h1 (by omega) h2
    simp [h2, h3]
  · simp [h2]

theorem draw_run (hcf : CFOK P cf) {ro : Option Nat} {B : Nat} {ds : List Deferred} {M : Mem} {w : World} {s' : St}
    (hH : s'.heap = appE (runE (fun _ => true) (sts.map (·.eff)) 0) 0 h0) (hT : ∀ t, tget s'.tmps t = runE (fun _ => true) (sts.map tEff) 0 t (tget T0 t)) :
    ∀ (fuel : Nat) (listed : Array Bool) (M1 : Mem) (a1 : Act) (w1 : World) (T1 : Tmps), listed.size = ops.size → (∀ j k, listed.getD j false = true → (bs.getD j 0).testBit k = true → listed.getD k false = true) →
      listed.toList.count false = fuel → At B ds M1 N ⟨T1, appE (runE (fun n => listed.getD n false) (sts.map (·.eff)) 0) 0 h0, []⟩ a1 w1 → (∀ t, tget T1 t = runE (fun n => listed.getD n false) (sts.map tEff) 0 t (tget T0 t)) →
      Ext M M1 → Below B w w1 → wpAnyIn (FO ro) 9 P .any ops (CPost B ds M w N .normal s') fuel listed a1 w1 := by
  -- when all is listed
  have fin : ∀ (listed : Array Bool) (M1 : Mem) (a1 : Act) (w1 : World) (T1 : Tmps), listed.size = ops.size → (∀ n, n < ops.size → listed.getD n false = true) → At B ds M1 N ⟨T1, appE (runE (fun n => listed.getD n false) (sts.map (·.eff)) 0) 0 h0, []⟩ a1 w1 →
      (∀ t, tget T1 t = runE (fun n => listed.getD n false) (sts.map tEff) 0 t (tget T0 t)) → Ext M M1 → Below B w w1 → CPost B ds M w N .normal s' .normal a1 w1 := by
    intro listed M1 a1 w1 T1 hsz hall hA ht hE hB
    have hlen : ∀ j, j < sts.length → listed.getD (0 + j) false = true := fun j hj => by rw [Nat.zero_add]; exact hall j (by rw [← F.len]; exact hj)
    refine ⟨trivial, hA.defers, hA.size, M1, hE, ?_, ?_, hB⟩
    · have := hA.inv
      rw [appE_congr fun id o => runE_congr (Y := fun _ => true) _ 0 o (by simpa using fun j hj => by simpa using hlen j hj)] at this
      rw [hH]; exact this
    · intro t
      have := hA.tr t
      rw [ht t, runE_congr (Y := fun _ => true) _ 0 _ (by simpa using fun j hj => by simpa using hlen j hj), ← hT t] at this
      exact this
  have rdy : ∀ (listed : Array Bool), listed.size = ops.size → Region.ready .any ops listed = [] → ∀ n, n < ops.size → listed.getD n false = true := by
    intro listed hsz hr n
    induction n using Nat.strongRecOn with
    | _ n ih =>
      intro hn
      cases hc : listed.getD n false with
      | true => rfl
      | false =>
        have : n ∈ Region.ready .any ops listed := by
          rw [mem_ready]
          refine ⟨by simpa [hsz, hn] using hc, ops[n], by simp [hn], fun e he hb => ?_⟩
          have hlt := F.edgeLt n ops[n] (by simp [hn]) e he hb
          exact ih e.on hlt (by omega)
        rw [hr] at this
        cases this
  intro fuel
  induction fuel with
  | zero =>
    intro listed M1 a1 w1 T1 hsz hcl hcnt hA ht hE hB
    have hall : ∀ n, n < ops.size → listed.getD n false = true := by
      intro n hn
      have h1 := List.count_eq_zero.1 hcnt
      have hn' : n < listed.size := by omega
      cases hc : listed[n] with
      | true => simp [hn', hc]
      | false => exact (h1 (by rw [← hc]; simp)).elim
    refine ⟨?_, fin listed M1 a1 w1 T1 hsz hall hA ht hE hB⟩
    cases hr : Region.ready .any ops listed with
    | nil => rfl
    | cons i r =>
      have : i ∈ Region.ready .any ops listed := by rw [hr]; simp
      rw [mem_ready] at this
      obtain ⟨h1, o, h2, _⟩ := this
      have hi := (Array.getElem?_eq_some_iff.1 h2).1
      have := hall i hi
      simp [hsz, hi] at h1 this
      rw [h1] at this; cases this
  | succ fuel ih =>
    intro listed M1 a1 w1 T1 hsz hcl hcnt hA ht hE hB
    refine ⟨fun hr => fin listed M1 a1 w1 T1 hsz (rdy listed hsz hr) hA ht hE hB, fun i hi => ?_⟩
    rw [mem_ready] at hi
    obtain ⟨h1, o, h2, h3⟩ := hi
    have hio := (Array.getElem?_eq_some_iff.1 h2).1
    have his : i < sts.length := by rw [F.len]; exact hio
    have hst : sts[i]? = some sts[i] := by simp [his]
    generalize hsti : sts[i] = st at hst
    obtain ⟨hop, hok⟩ := F.step i st hst
    have ho : o = st.o := by rw [h2] at hop; exact Option.some.inj hop
    subst ho
    have hxi : listed.getD i false = false := by
      have hil : i < listed.size := by omega
      simpa [hil] using h1
    have hb : ∀ j, (bs.getD i 0).testBit j = true → listed.getD j false = true := by
      intro j hj
      obtain ⟨e, k1, k2, k3⟩ := F.edges i st.o h2 j hj
      rcases k3 with rfl | k3
      · exact h3 e k1 k2
      · exact hcl _ _ (h3 e k1 k2) k3
    have hset := listed_set (listed := listed) (i := i) (by omega)
    have hsetf : (fun n => (listed.setIfInBounds i true).getD n false) = fun n => listed.getD n false || n == i := funext hset
    have hev : ∀ t, t ∈ opTmps st.o ++ guardTmp ops st.o → tget T1 t = tget st.T t := fun t htt => by rw [ht t]; exact F.eqT hcl hxi hb hst htt
    have hw : wantedA ops T1 st.o = some st.want := by
      rw [wantedA_congr (t' := st.T) fun x hx => hev x (List.mem_append_right _ hx)]
      exact hok.wanted
    have next : ∀ (M' : Mem) (u : Value) (w' : World), Ext M1 M' → Inv B M' (appE st.eff 0 (appE (runE (fun n => listed.getD n false) (sts.map (·.eff)) 0) 0 h0)) w' → VV M' st.v u → Below B w1 w' →
        wpAnyIn (FO ro) 9 P .any ops (CPost B ds M w N .normal s') fuel (listed.setIfInBounds i true) (a1.put st.o.dst u) w' := by
      intro M' u w' k1 k2 k3 k4
      obtain ⟨q1, q2, q3⟩ := TR_put (hA.tr.mono k1) hA.size st.o.dst k3
      refine ih (listed.setIfInBounds i true) M' _ w' (setD N T1 st.o.dst st.v) (by simp [hsz]) ?_ ?_ ⟨?_, q1, by rw [q3]; exact hA.defers, q2⟩ ?_ (hE.trans k1) (hB.trans k4)
      · intro j k hj hk
        rw [hset] at hj ⊢
        rw [Bool.or_eq_true] at hj ⊢
        rcases hj with hj | hj
        · exact .inl (hcl j k hj hk)
        · have : j = i := by simpa using hj
          subst this
          exact .inl (hb k hk)
      · have hl : listed.toList[i]? = some false := by
          have hil : i < listed.size := by omega
          simp [hil] at hxi ⊢
          exact hxi
        have := count_set listed.toList i hl
        rw [Array.toList_setIfInBounds]
        omega
      · rw [hsetf, F.ins hcl hxi hb hst]
        exact k2
      · intro t
        rw [hsetf, F.insT hxi hst, tget_setD (fun d hd => F.dstN i st d hst hd), ht t]
    unfold wpOpIn
    rw [h2]
    simp only
    rw [wanted_ok hA.tr hw]
    cases hwant : st.want with
    | false =>
      simp only [Bool.false_eq_true, if_false]
      obtain ⟨s1, s2⟩ := hok.skip hwant
      refine ⟨fun _ _ => trivial, next M1 undef w1 (.refl _) ?_ (by rw [s1]; exact .tup rfl (fun i hi => by simp at hi)) (.refl B w1)⟩
      rw [appE_congr (e' := fun _ o => o) s2, appE_id]
      exact hA.inv
    | true =>
      simp only [if_true]
      obtain ⟨slot, ws, hop'⟩ := hok.core.eval hwant T1 (appE (runE (fun n => listed.getD n false) (sts.map (·.eff)) 0) 0 h0)
        (by rw [F.preh i st hst, appE_length, appE_length]) (ev_congr fun x hx => hev x (List.mem_append_left _ hx)) (fun id hd => F.eqD hcl hxi hb hst hd) (fun id sz e n hs => F.eqS hcl hxi hb hst hs)
      exact oper_wp hcf hA hop' next
end

theorem draw_sound {P : Program} {cf : CF} (hm : P.follows .mixedOrders = true) (hcf : CFOK P cf) (hfr : CFFr cf) (hmono : CFMono cf) : DrawOK P cf := by
  intro ro B ds M N ops id s s' a w hA e
  unfold absDraw at e
  simp only at e
  split at e
  case isFalse => cases e
  rename_i hc
  simp only [Bool.and_eq_true] at hc
  obtain ⟨⟨hnd, hed⟩, hdN⟩ := hc
  split at e
  · cases e
  rename_i recs s1 hg
  split at e
  case isFalse => cases e
  rename_i hp
  cases e
  obtain ⟨sts, hrec, hch⟩ := drawGo_chain hmono hfr ops.toList 0 [] recs _ s' hg
  rw [List.nil_append] at hrec
  obtain ⟨a1, a2⟩ := chain_at hch
  have hdN' : ∀ o, o ∈ ops.toList → ∀ d, o.dst = some d → d < N := by
    intro o ho d hd
    have := List.all_eq_true.1 hdN d (List.mem_filterMap.2 ⟨o, ho, hd⟩)
    simpa using this
  obtain ⟨p1, p2, p3⟩ := chain_pre hch hdN'
  have F : Facts P cf N ops (befores ops.toList []) s.tmps (s.heap ++ List.replicate (slotCount ops.toList) none) sts := by
    refine ⟨by rw [a1]; simp, ?_, ?_, ?_, ?_, befores_lower hed, ?_, ?_, ?_, ?_⟩
    · intro i st hst
      obtain ⟨k1, k2⟩ := a2 i st hst
      rw [Nat.zero_add] at k2
      exact ⟨by simpa using k1, k2⟩
    · intro i st hst
      have := (p1 i st hst).1
      simpa only [Nat.zero_add] using this
    · intro i st hst t
      have := (p1 i st hst).2 t
      simpa only [Nat.zero_add] using this
    · intro i j x y hx hy hij hb1 hb2
      have := pairsOK_spec recs 0 recs hp i x.r (by rw [hrec]; simp [hx]) j y.r (by rw [hrec]; simp [hy])
      rw [Nat.zero_add] at this
      have b1 := (a2 i x hx).2.before
      have b2 := (a2 j y hy).2.before
      rw [Nat.zero_add] at b1 b2
      rcases this with h | h | h | h
      · exact (hij h).elim
      · rw [b1, hb1] at h; cases h
      · rw [b2, hb2] at h; cases h
      · exact h
    · intro i o ho j hj
      exact befores_spec ops.toList [] i o (by simpa using ho) j (by simpa using hj)
    · intro i o ho e he hb
      have := edgesOK_spec ops.toList 0 hed i o (by simpa using ho) e he hb
      rwa [Nat.zero_add] at this
    · intro i j x y d hx hy hij hd
      exact dsts_apart hnd (a2 i x hx).1 (a2 j y hy).1 hij hd
    · intro i x d hx hd
      exact hdN' x.o (List.mem_of_getElem? (a2 i x hx).1) d hd
  refine wpIn_region_any hm ?_
  have hX : ∀ n, (Array.replicate ops.size false).getD n false = false := by
    intro n
    by_cases hn : n < ops.size <;> simp [hn]
  have hnone : ∀ {α : Type} (es : List (Nat → α → α)) (id : Nat) (x : α), runE (fun n => (Array.replicate ops.size false).getD n false) es 0 id x = x := fun es id x => runE_none es 0 x fun j _ => hX _
  refine draw_run F hcf p2 p3 ops.size (Array.replicate ops.size false) M a _ s.tmps (by simp) (fun j k hj _ => by rw [hX] at hj; cases hj) (by simp) ⟨?_, hA.tr, hA.defers, hA.size⟩ (fun t => (hnone _ _ _).symm) (.refl M) ?_
  · rw [appE_congr (e' := fun _ o => o) fun id o => hnone _ id o, appE_id]
    exact (hA.inv.holes _).congr rfl
  · exact (Below.refl B w).drew

theorem absCall_fr {P : Program} {C : Cfg} : ∀ n, CFFr (absCall P C n)
  | 0 => fun f args H v H' ws e => by cases e
  | n + 1 => fun f args H v H' ws e => by
    have ih := cfR_fr (rd := C.read) (absCall_fr (P := P) (C := C) n)
    have go : ∀ {fn : Func} {body : Code} {x : AX} {s : St} {rs : List V}, absCode P (cfR C.read (absCall P C n)) (absScope P (cfR C.read (absCall P C n)) n (max fn.ntmps args.length) H.length (C.live f) n) n (max fn.ntmps args.length) H.length (C.live f) body ⟨argT 0 args, H, []⟩ = some (x, s) →
        wrapUp (C.keep f) H.length (resV rs) s.heap s.ws = (v, H', ws) → Fr none H H' ws := by
      intro fn body x s rs hs he
      have hfr := absCode_fr ih (n0 := H.length) (absScope_fr ih n) body _ _ _ (Nat.le_refl _) hs
      have := wrapUp_fr (H := H) (n0 := H.length) rfl (ws := s.ws) ⟨hfr.1 (Nat.le_refl _), hfr.2.2⟩ (resV rs) (C.keep f)
      rw [he] at this
      exact this
    cases ht : C.told f args with
    | some v0 =>
      simp only [absCall, ht] at e
      cases e
      exact .same _ _ _
    | none =>
    simp only [absCall, ht] at e
    split at e
    · cases e
    · split at e
      · cases e
      · split at e
        · rename_i s hs
          obtain ⟨rs, e1, e2⟩ := Option.map_eq_some_iff.1 e
          exact go hs e2
        · rename_i s hs
          obtain ⟨rs, e1, e2⟩ := Option.map_eq_some_iff.1 e
          exact go hs e2
        · cases e

theorem absCall_ok {P : Program} (C : Cfg) (hit : CfgOK P C) (hm : P.follows .mixedOrders = true) (n : Nat) : CFOK P (absCall P C n) :=
  (absCall_sound hit (fun n h1 h2 => draw_sound hm h1 h2 (cfR_mono (absCall_mono absCall_fr n))) n).1
end Go.Proofs.YtkbdhjfjbkmkcaaGreat.Abs
