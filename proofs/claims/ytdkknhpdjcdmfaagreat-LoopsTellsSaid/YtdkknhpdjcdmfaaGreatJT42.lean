/- YtdkknhpdjcdmfaaGreatJT42: texts that follow each other, as one. -/
import Derived.Test.YtdkknhpdjcdmfaaGreatJT40
import Derived.Test.YtdkknhpdjcdmfaaGreatJT41
/- The order of a walk: all that it meets, each behind one from which it is gone to; what dom.Of needs of it. -/
set_option linter.unusedSimpArgs false
set_option linter.unusedVariables false
namespace Go.Proofs.YtdkknhpdjcdmfaaGreat.Abs
open Go Go.RowKit Go.Proofs

def Par (ss : List (List Int)) (T : Int → Prop) : List Int → Prop
  | [] => True
  | x :: b => (T x ∨ ∃ p, p ∈ b ∧ x ∈ ss.getD p.toNat []) ∧ Par ss T b
section
variable {ss : List (List Int)} {T U : Int → Prop}
theorem Par.app : ∀ {a b : List Int}, Par ss T a → Par ss T b → Par ss T (a ++ b)
  | [], b, _, h => h
  | x :: a, b, h, g => by
    refine ⟨?_, Par.app h.2 g⟩
    rcases h.1 with h1 | ⟨p, hp, hx⟩
    · exact .inl h1
    · exact .inr ⟨p, by simp [hp], hx⟩
theorem Par.mono (hm : ∀ x, T x → U x) : ∀ {a : List Int}, Par ss T a → Par ss U a
  | [], _ => trivial
  | x :: a, h => ⟨h.1.imp (hm x) id, Par.mono hm h.2⟩
theorem Par.last {v : Int} : ∀ {a : List Int}, Par ss (fun x => x ∈ ss.getD v.toNat []) a → Par ss (fun x => x = v) (a ++ [v])
  | [], _ => ⟨.inl rfl, trivial⟩
  | x :: a, h => by
    refine ⟨?_, Par.last h.2⟩
    rcases h.1 with h1 | ⟨p, hp, hx⟩
    · exact .inr ⟨v, by simp, h1⟩
    · exact .inr ⟨p, by simp [hp], hx⟩
theorem Par.at_ {x : Int} {b : List Int} : ∀ {a : List Int}, Par ss T (a ++ x :: b) → T x ∨ ∃ p, p ∈ b ∧ x ∈ ss.getD p.toNat []
  | [], h => h.1
  | _ :: a, h => Par.at_ h.2
end

structure Wk (ss : List (List Int)) (T : Int → Prop) (s r : List Bool × List Int) (new : List Int) : Prop where
  len : r.1.length = s.1.length
  post : r.2 = s.2 ++ new
  nodup : new.Nodup
  met : ∀ w : Nat, r.1[w]? = some true ↔ s.1[w]? = some true ∨ (w : Int) ∈ new
  fresh : ∀ x, x ∈ new → 0 ≤ x ∧ s.1[x.toNat]? = some false
  par : Par ss T new
  clo : ∀ x, x ∈ new → ∀ w, w ∈ ss.getD x.toNat [] → r.1[w.toNat]? = some true
theorem Wk.refl (ss : List (List Int)) (T : Int → Prop) (s : List Bool × List Int) : Wk ss T s s [] :=
  ⟨rfl, by simp, List.nodup_nil, fun w => by simp, by simp, trivial, by simp⟩
theorem Wk.trans {ss : List (List Int)} {T : Int → Prop} {s r t : List Bool × List Int} {a b : List Int} (h : Wk ss T s r a) (g : Wk ss T r t b) : Wk ss T s t (a ++ b) := by
  refine ⟨g.len.trans h.len, by rw [g.post, h.post, List.append_assoc], ?_, fun w => ?_, fun x hx => ?_, h.par.app g.par, fun x hx w hw => ?_⟩
  · refine List.nodup_append.2 ⟨h.nodup, g.nodup, fun x hx y hy e => ?_⟩
    subst e
    obtain ⟨x0, xf⟩ := g.fresh x hy
    have := (h.met x.toNat).2 (.inr (by rw [Int.toNat_of_nonneg x0]; exact hx))
    rw [this] at xf
    cases xf
  · rw [g.met, h.met, List.mem_append, or_assoc]
  · rcases List.mem_append.1 hx with hx | hx
    · exact h.fresh x hx
    · obtain ⟨x0, xf⟩ := g.fresh x hx
      refine ⟨x0, ?_⟩
      have hl := (List.getElem?_eq_some_iff.1 xf).1
      have hl2 := h.len
      cases hb : s.1[x.toNat]? with
      | none =>
        have := List.getElem?_eq_none_iff.1 hb
        omega
      | some c =>
        cases c with
        | false => rfl
        | true =>
          have := (h.met x.toNat).2 (.inl hb)
          rw [this] at xf
          cases xf
  · rcases List.mem_append.1 hx with hx | hx
    · exact (g.met _).2 (.inl (h.clo x hx w hw))
    · exact g.clo x hx w hw
theorem Wk.mono {ss : List (List Int)} {T U : Int → Prop} {s r : List Bool × List Int} {a : List Int} (hm : ∀ x, T x → U x) (h : Wk ss T s r a) : Wk ss U s r a :=
  ⟨h.len, h.post, h.nodup, h.met, h.fresh, h.par.mono hm, h.clo⟩

theorem edges_at {ss : List (List Int)} (hs : Edges ss) (v : Nat) : ∀ b, b ∈ ss.getD v [] → 0 ≤ b ∧ b < ss.length := by
  intro b hb
  rw [List.getD] at hb
  cases he : ss[v]? with
  | none => rw [he] at hb; simp at hb
  | some l => rw [he] at hb; exact (hs.each l (List.mem_of_getElem? he)).2 b hb

theorem visitF_wk (ss : List (List Int)) (hs : Edges ss) : ∀ (m v : Nat) (s : List Bool × List Int), s.1.length = ss.length → s.1[v]? = some false → unmet s.1 ≤ m → ∃ a, Wk ss (fun x => x = (v : Int)) s (visitF ss m v s) (a ++ [(v : Int)])
  | 0, v, s, hl, hv, hu => by
    have := unmet_set hv
    omega
  | m + 1, v, s, hl, hv, hu => by
    have fold : ∀ (bs : List Int) (s : List Bool × List Int), s.1.length = ss.length → unmet s.1 ≤ m → (∀ b, b ∈ bs → 0 ≤ b ∧ b < ss.length) →
        ∃ a, Wk ss (fun x => x ∈ bs) s (bs.foldl (fun s b => if s.1.getD b.toNat false then s else visitF ss m b.toNat s) s) a ∧ ∀ b, b ∈ bs → (bs.foldl (fun s b => if s.1.getD b.toNat false then s else visitF ss m b.toNat s) s).1[b.toNat]? = some true := by
      intro bs
      induction bs with
      | nil => intro s _ _ _; exact ⟨[], .refl ss _ s, by simp⟩
      | cons b bs ih =>
        intro s hl hu hb
        rw [List.foldl_cons]
        have h0 := hb b (by simp)
        have hlt : b.toNat < s.1.length := by omega
        have h1 : ∃ a, Wk ss (fun x => x ∈ b :: bs) s (if s.1.getD b.toNat false then s else visitF ss m b.toNat s) a ∧ (if s.1.getD b.toNat false then s else visitF ss m b.toNat s).1[b.toNat]? = some true := by
          split
          · rename_i hn
            refine ⟨[], .refl ss _ s, ?_⟩
            rw [List.getD, List.getElem?_eq_getElem hlt] at hn
            rw [List.getElem?_eq_getElem hlt]
            simpa using hn
          · rename_i hn
            have hf : s.1[b.toNat]? = some false := by
              rw [List.getElem?_eq_getElem hlt]
              rw [List.getD, List.getElem?_eq_getElem hlt] at hn
              simpa using hn
            obtain ⟨a, ha⟩ := visitF_wk ss hs m b.toNat s hl hf hu
            refine ⟨_, ha.mono fun x hx => ?_, (ha.met _).2 (.inr (by simp))⟩
            rw [hx, Int.toNat_of_nonneg h0.1]
            simp
        obtain ⟨a, ha, hb1⟩ := h1
        have hu' : unmet (if s.1.getD b.toNat false then s else visitF ss m b.toNat s).1 ≤ m := by
          split
          · exact hu
          · rename_i hn
            have hf : s.1[b.toNat]? = some false := by
              rw [List.getElem?_eq_getElem hlt]
              rw [List.getD, List.getElem?_eq_getElem hlt] at hn
              simpa using hn
            have := (visitF_inv ss hs m b.toNat s hl hf).un
            omega
        obtain ⟨a', ha', hb'⟩ := ih _ (ha.len.trans hl) hu' (fun x hx => hb x (by simp [hx]))
        refine ⟨a ++ a', ha.trans (ha'.mono fun x hx => by simp [hx]), fun x hx => ?_⟩
        rcases List.mem_cons.1 hx with rfl | hx
        · exact (ha'.met _).2 (.inl hb1)
        · exact hb' x hx
    have h2 := unmet_set hv
    have hvl := (List.getElem?_eq_some_iff.1 hv).1
    have hbs := edges_at hs v
    obtain ⟨a, ha, hb⟩ := fold (ss.getD v []) (s.1.set v true, s.2) (by simpa using hl) (by simp only; omega) hbs
    have hset : ∀ w : Nat, (s.1.set v true)[w]? = some true ↔ s.1[w]? = some true ∨ w = v := by
      intro w
      rw [List.getElem?_set]
      by_cases e : w = v
      · subst e; simp [hvl]
      · rw [if_neg (fun h => e h.symm)]; simp [e]
    have hsf : ∀ w : Nat, (s.1.set v true)[w]? = some false → s.1[w]? = some false ∧ w ≠ v := by
      intro w h
      rw [List.getElem?_set] at h
      by_cases e : w = v
      · subst e; simp [hvl] at h
      · rw [if_neg (fun h => e h.symm)] at h; exact ⟨h, e⟩
    refine ⟨a, ?_, ?_, ?_, fun w => ?_, fun x hx => ?_, ?_, fun x hx w hw => ?_⟩
    · have := ha.len
      simp only [visitF]
      simpa using this
    · have := ha.post
      simp only [visitF]
      rw [this]
      simp
    · refine List.nodup_append.2 ⟨ha.nodup, by simp, fun x hx y hy e => ?_⟩
      have hy' : y = (v : Int) := by simpa using hy
      subst hy'
      obtain ⟨_, xf⟩ := ha.fresh x hx
      have := (hsf _ xf).2
      rw [e] at this
      simp at this
    · have := ha.met w
      simp only [visitF]
      rw [this, hset, List.mem_append]
      simp only [List.mem_singleton]
      constructor
      · rintro ((h | h) | h)
        · exact .inl h
        · exact .inr (.inr (by omega))
        · exact .inr (.inl h)
      · rintro (h | h | h)
        · exact .inl (.inl h)
        · exact .inr h
        · exact .inl (.inr (by omega))
    · rcases List.mem_append.1 hx with hx | hx
      · obtain ⟨x0, xf⟩ := ha.fresh x hx
        exact ⟨x0, (hsf _ xf).1⟩
      · have hx' : x = (v : Int) := by simpa using hx
        subst hx'
        exact ⟨by omega, by rw [Int.toNat_natCast]; exact hv⟩
    · have := ha.par
      exact Par.last (v := (v : Int)) (by rw [Int.toNat_natCast]; exact this)
    · have hm := fun (w : Nat) => ha.met w
      simp only [visitF]
      rcases List.mem_append.1 hx with hx | hx
      · exact ha.clo x hx w hw
      · have hx' : x = (v : Int) := by simpa using hx
        subst hx'
        rw [Int.toNat_natCast] at hw
        exact hb w hw

structure Ord (ss : List (List Int)) (ord : List Int) : Prop where
  nodup : ord.Nodup
  first : ord[0]? = some 0
  low : ∀ k, k ∈ ord → 0 ≤ k ∧ k < ss.length
  from_ : ∀ (i : Nat) x, ord[i]? = some x → x ≠ 0 → ∃ (j : Nat) (p : Int), j < i ∧ ord[j]? = some p ∧ x ∈ ss.getD p.toNat []
  clo : ∀ x, x ∈ ord → ∀ w, w ∈ ss.getD x.toNat [] → w ∈ ord
  max : ord.length ≤ ss.length
theorem order_law {ss : List (List Int)} (hs : Edges ss) (hn : 0 < ss.length) : Ord ss (orderF ss) := by
  have hv0 : (List.replicate ss.length false)[0]? = some false := by rw [List.getElem?_replicate, if_pos hn]
  obtain ⟨a, W⟩ := visitF_wk ss hs ss.length 0 (List.replicate ss.length false, []) (by simp) hv0 (by simp [unmet_all])
  have hp := W.post
  simp only [List.nil_append] at hp
  have hord : orderF ss = (a ++ [((0 : Nat) : Int)]).reverse := by unfold orderF; rw [hp]
  have hmet : ∀ w : Nat, (visitF ss ss.length 0 (List.replicate ss.length false, [])).1[w]? = some true ↔ (w : Int) ∈ a ++ [((0 : Nat) : Int)] := by
    intro w
    rw [W.met]
    constructor
    · rintro (h | h)
      · simp only [List.getElem?_replicate] at h
        split at h <;> simp at h
      · exact h
    · exact .inr
  refine ⟨?_, ?_, orderF_low hs hn, fun i x hx hx0 => ?_, fun x hx w hw => ?_, orderF_len hs hn⟩
  · rw [hord]; exact List.pairwise_reverse.2 (W.nodup.imp fun h => Ne.symm h)
  · rw [hord]; simp
  · have hil := (List.getElem?_eq_some_iff.1 hx).1
    have hxe := (List.getElem?_eq_some_iff.1 hx).2
    have hsplit : orderF ss = (orderF ss).take i ++ x :: (orderF ss).drop (i + 1) := by
      rw [← hxe, ← List.drop_eq_getElem_cons hil, List.take_append_drop]
    have hrev : a ++ [((0 : Nat) : Int)] = ((orderF ss).drop (i + 1)).reverse ++ x :: ((orderF ss).take i).reverse := by
      have h1 : a ++ [((0 : Nat) : Int)] = (orderF ss).reverse := by rw [hord, List.reverse_reverse]
      rw [h1]
      conv => lhs; rw [hsplit]
      simp
    have hpar := W.par
    rw [hrev] at hpar
    rcases hpar.at_ with h | ⟨p, hp1, hp2⟩
    · exact absurd h (by simpa using hx0)
    · rw [List.mem_reverse] at hp1
      obtain ⟨j, hj⟩ := List.getElem?_of_mem hp1
      have hjl := (List.getElem?_eq_some_iff.1 hj).1
      rw [List.length_take] at hjl
      refine ⟨j, p, by omega, ?_, hp2⟩
      rw [List.getElem?_take] at hj
      split at hj
      · exact hj
      · cases hj
  · rw [hord, List.mem_reverse] at hx ⊢
    have := W.clo x hx w hw
    rw [hmet] at this
    have h0 := (edges_at hs _ w hw).1
    rwa [Int.toNat_of_nonneg h0] at this

/-! Places. -/
theorem placeG_keep {v : Nat} : ∀ (ks : List Int) (i : Nat) (ys : List Int), (∀ k, k ∈ ks → k.toNat ≠ v) → (placeG i ks ys)[v]? = ys[v]?
  | [], _, _, _ => rfl
  | k :: ks, i, ys, h => by
    rw [placeG, placeG_keep ks _ _ (fun x hx => h x (by simp [hx])), List.getElem?_set_ne (h k (by simp))]
theorem placeG_at : ∀ (ks : List Int) (i : Nat) (ys : List Int), ks.Nodup → (∀ k, k ∈ ks → 0 ≤ k ∧ k < ys.length) → ∀ (j : Nat) (k : Int), ks[j]? = some k → (placeG i ks ys)[k.toNat]? = some ((i + j : Nat) : Int)
  | [], _, _, _, _, j, k, h => by simp at h
  | k' :: ks, i, ys, hn, hb, j, k, h => by
    rw [placeG]
    have hn' := List.nodup_cons.1 hn
    cases j with
    | zero =>
      simp only [List.getElem?_cons_zero, Option.some.injEq] at h
      subst h
      have h0 := hb k' (by simp)
      rw [placeG_keep ks _ _ (fun x hx e => hn'.1 (by
        have hx0 := (hb x (by simp [hx])).1
        have : x = k' := by omega
        exact this ▸ hx))]
      rw [List.getElem?_set, if_pos rfl, if_pos (by omega)]
      rfl
    | succ j =>
      simp only [List.getElem?_cons_succ] at h
      rw [placeG_at ks (i + 1) _ hn'.2 (fun x hx => by rw [List.length_set]; exact hb x (by simp [hx])) j k h]
      congr 2
      omega
def plF (n : Nat) (ord : List Int) (v : Nat) : Nat := ((placesF n ord).getD v (-1)).toNat
theorem places_at {ss : List (List Int)} {ord : List Int} (O : Ord ss ord) {i : Nat} {k : Int} (h : ord[i]? = some k) : (placesF ss.length ord)[k.toNat]? = some (i : Int) := by
  have := placeG_at ord 0 (List.replicate ss.length (-1)) O.nodup (fun k hk => by rw [List.length_replicate]; exact O.low k hk) i k h
  rw [Nat.zero_add] at this
  exact this
theorem pl_at {ss : List (List Int)} {ord : List Int} (O : Ord ss ord) {i : Nat} {k : Int} (h : ord[i]? = some k) : plF ss.length ord k.toNat = i := by
  unfold plF
  rw [List.getD, places_at O h]
  simp

/-! From where a block is gone to. -/
theorem addP_mem {k : Nat} {rows : List (List Int)} {b : Int} (hb : 0 ≤ b) {v : Nat} (hv : v < rows.length) {p : Int} : p ∈ (addP k rows b).getD v [] ↔ p ∈ rows.getD v [] ∨ (p = (k : Int) ∧ (v : Int) = b) := by
  unfold addP
  rw [List.getD, List.getElem?_set]
  by_cases e : b.toNat = v
  · subst e
    rw [if_pos rfl, if_pos hv]
    simp only [Option.getD_some, List.mem_append, List.mem_singleton]
    constructor
    · rintro (h | h)
      · exact .inl h
      · exact .inr ⟨h, by omega⟩
    · rintro (h | h)
      · exact .inl h
      · exact .inr h.1
  · rw [if_neg e]
    constructor
    · exact .inl
    · rintro (h | h)
      · exact h
      · omega
theorem foldP_mem {k : Nat} {v : Nat} {p : Int} : ∀ (xs : List Int) (rows : List (List Int)), (∀ b, b ∈ xs → 0 ≤ b) → v < rows.length → (p ∈ (xs.foldl (addP k) rows).getD v [] ↔ p ∈ rows.getD v [] ∨ (p = (k : Int) ∧ (v : Int) ∈ xs))
  | [], rows, _, _ => by simp
  | b :: xs, rows, h, hv => by
    rw [List.foldl_cons, foldP_mem xs _ (fun x hx => h x (by simp [hx])) (by rw [addP_len]; exact hv), addP_mem (h b (by simp)) hv, List.mem_cons]
    constructor
    · rintro ((h | h) | h)
      · exact .inl h
      · exact .inr ⟨h.1, .inl h.2⟩
      · exact .inr ⟨h.1, .inr h.2⟩
    · rintro (h | ⟨h1, h2 | h2⟩)
      · exact .inl (.inl h)
      · exact .inl (.inr ⟨h1, h2⟩)
      · exact .inr ⟨h1, h2⟩
theorem predsG_mem {v : Nat} {p : Int} : ∀ (k : Nat) (ls rows : List (List Int)), (∀ l, l ∈ ls → ∀ b, b ∈ l → 0 ≤ b) → v < rows.length → (p ∈ (predsG k ls rows).getD v [] ↔ p ∈ rows.getD v [] ∨ ∃ (j : Nat), p = ((k + j : Nat) : Int) ∧ (v : Int) ∈ ls.getD j [])
  | k, [], rows, _, _ => by simp [predsG]
  | k, l :: ls, rows, h, hv => by
    rw [predsG, predsG_mem (k + 1) ls _ (fun x hx => h x (by simp [hx])) (by rw [foldP_len]; exact hv), foldP_mem l rows (h l (by simp)) hv]
    constructor
    · rintro ((h | h) | ⟨j, h1, h2⟩)
      · exact .inl h
      · exact .inr ⟨0, by simpa using h.1, by simpa using h.2⟩
      · exact .inr ⟨j + 1, by rw [h1]; congr 1; omega, by simpa using h2⟩
    · rintro (h | ⟨j, h1, h2⟩)
      · exact .inl (.inl h)
      · cases j with
        | zero => exact .inl (.inr ⟨by simpa using h1, by simpa using h2⟩)
        | succ j => exact .inr ⟨j, by rw [h1]; congr 1; omega, by simpa using h2⟩
theorem preds_mem {ss : List (List Int)} (hs : Edges ss) {v : Nat} (hv : v < ss.length) {p : Int} : p ∈ (predsF ss).getD v [] ↔ 0 ≤ p ∧ (v : Int) ∈ ss.getD p.toNat [] := by
  unfold predsF
  rw [predsG_mem 0 ss _ (fun l hl b hb => ((hs.each l hl).2 b hb).1) (by simpa using hv)]
  constructor
  · rintro (h | ⟨j, h1, h2⟩)
    · rw [List.getD, List.getElem?_replicate] at h
      split at h <;> simp at h
    · rw [Nat.zero_add] at h1
      subst h1
      exact ⟨by omega, by rw [Int.toNat_natCast]; exact h2⟩
  · rintro ⟨h0, h⟩
    exact .inr ⟨p.toNat, by omega, h⟩
theorem pr_iff {ss : List (List Int)} (hs : Edges ss) {p v : Nat} (hv : v < ss.length) : prOf (predsF ss) p v ↔ (v : Int) ∈ ss.getD p [] := by
  unfold prOf
  rw [preds_mem hs hv, Int.toNat_natCast]
  exact ⟨fun h => h.2, fun h => ⟨by omega, h⟩⟩
theorem getD_lt {ss : List (List Int)} {p : Nat} {x : Int} (h : x ∈ ss.getD p []) : p < ss.length := by
  rw [List.getD] at h
  cases he : ss[p]? with
  | none => rw [he] at h; simp at h
  | some l => exact (List.getElem?_eq_some_iff.1 he).1
theorem preds_row {ss : List (List Int)} (hs : Edges ss) {l : List Int} (hl : l ∈ predsF ss) : ∀ p, p ∈ l → 0 ≤ p ∧ p < ss.length := by
  intro p hp
  obtain ⟨v, hv⟩ := List.getElem?_of_mem hl
  have hvl := (List.getElem?_eq_some_iff.1 hv).1
  rw [predsF_len] at hvl
  have h1 : p ∈ (predsF ss).getD v [] := by rw [List.getD, hv]; exact hp
  have h2 := (preds_mem hs hvl).1 h1
  have := getD_lt h2.2
  omega
theorem predsG_low : ∀ (k : Nat) (ls : List (List Int)) {m : Nat} {rows : List (List Int)}, (∀ l, l ∈ ls → l.length ≤ 1000) → Low m rows → Low (m + 1000 * ls.length) (predsG k ls rows)
  | k, [], m, rows, _, h => h
  | k, l :: ls, m, rows, hl, h => by
    rw [predsG]
    have h1 := hl l (by simp)
    have := predsG_low (k + 1) ls (fun x hx => hl x (by simp [hx])) (foldP_low (k := k) l h)
    exact this.mono (by simp only [List.length_cons]; omega)
theorem preds_len {ss : List (List Int)} (hs : Edges ss) : ∀ l, l ∈ predsF ss → l.length ≤ 1000 * ss.length := by
  intro l hl
  have := predsG_low 0 ss (m := 0) (rows := List.replicate ss.length []) (fun l hl => (hs.each l hl).1) (fun l hl => by rw [List.eq_of_mem_replicate hl]; simp) l hl
  omega

theorem dom_in {ss : List (List Int)} (hs : Edges ss) (hn : 0 < ss.length) : DomIn ss.length (fun v => (v : Int) ∈ orderF ss) (plF ss.length (orderF ss)) (orderF ss) (predsF ss) := by
  have O := order_law hs hn
  have hat : ∀ v : Nat, (v : Int) ∈ orderF ss → (orderF ss)[plF ss.length (orderF ss) v]? = some (v : Int) := by
    intro v hv
    obtain ⟨i, hi⟩ := List.getElem?_of_mem hv
    have := pl_at O hi
    rw [Int.toNat_natCast] at this
    rw [this]; exact hi
  have hp0 : plF ss.length (orderF ss) 0 = 0 := pl_at O O.first
  refine ⟨⟨hn, fun v hv => by have := O.low _ hv; omega, List.mem_of_getElem? O.first, hp0, fun v w hv hw e => ?_, fun v hv hv0 => ?_, fun p v h => ?_⟩, predsF_len ss, fun l hl => preds_row hs hl, fun i k hk => ?_, fun v hv => ?_, O.max⟩
  · have h1 := hat v hv
    have h2 := hat w hw
    rw [e, h2] at h1
    injection h1 with h1
    omega
  · obtain ⟨j, p, h1, h2, h3⟩ := O.from_ _ _ (hat v hv) (by omega)
    have hp := O.low p (List.mem_of_getElem? h2)
    have hvn := O.low _ hv
    refine ⟨p.toNat, (pr_iff hs (by omega)).2 h3, ?_, ?_⟩
    · show ((p.toNat : Nat) : Int) ∈ _
      rw [Int.toNat_of_nonneg hp.1]
      exact List.mem_of_getElem? h2
    · rw [pl_at O h2]; exact h1
  · have hv : v < ss.length := by have := getD_lt h; rwa [predsF_len] at this
    exact getD_lt ((pr_iff hs hv).1 h)
  · have h0 := O.low k (List.mem_of_getElem? hk)
    refine ⟨h0.1, ?_, pl_at O hk⟩
    show ((k.toNat : Nat) : Int) ∈ _
    rw [Int.toNat_of_nonneg h0.1]
    exact List.mem_of_getElem? hk
  · exact (List.getElem?_eq_some_iff.1 (hat v hv)).1
theorem dom_hat {ss : List (List Int)} (hs : Edges ss) (hn : 0 < ss.length) (v : Nat) (hv : (v : Int) ∈ orderF ss) : (placesF ss.length (orderF ss))[v]? = some ((plF ss.length (orderF ss) v : Nat) : Int) := by
  have O := order_law hs hn
  obtain ⟨i, hi⟩ := List.getElem?_of_mem hv
  have h1 := places_at O hi
  have h2 := pl_at O hi
  rw [Int.toNat_natCast] at h1 h2
  rw [h1, h2]
end Go.Proofs.YtdkknhpdjcdmfaaGreat.Abs

/- Ways: who is reached from some, not by way of one; loops by their heads; what the chapter says of them. -/
set_option linter.unusedSimpArgs false
set_option linter.unusedVariables false
set_option linter.unusedSectionVars false
namespace Go.Proofs.YtdkknhpdjcdmfaaGreat.Abs
open Go Go.RowKit Go.Proofs

inductive Rch (E : List (List Int)) (from_ : List Int) (but : Int) : Nat → Prop
  | start {v : Nat} (h : (v : Int) ∈ from_) (hb : (v : Int) ≠ but) : Rch E from_ but v
  | step {k w : Nat} (hk : Rch E from_ but k) (hw : (w : Int) ∈ E.getD k []) (hb : (w : Int) ≠ but) : Rch E from_ but w

theorem Rch.not_but {E : List (List Int)} {l : List Int} {but : Int} {v : Nat} (h : Rch E l but v) : (v : Int) ≠ but := by
  cases h with
  | start _ hb => exact hb
  | step _ _ hb => exact hb
theorem Rch.any {E : List (List Int)} {l : List Int} {but : Int} {v : Nat} (h : Rch E l but v) : Rch E l (-1) v := by
  induction h with
  | start h _ => exact .start h (by omega)
  | step _ hw _ ih => exact .step ih hw (by omega)

section
variable {ss : List (List Int)} (hs : Edges ss) (hn : 0 < ss.length)
include hs hn
theorem rch_order {v : Nat} : Rch ss [0] (-1) v ↔ (v : Int) ∈ orderF ss := by
  have O := order_law hs hn
  constructor
  · intro h
    induction h with
    | start h _ =>
      simp only [List.mem_singleton] at h
      rw [h]
      exact List.mem_of_getElem? O.first
    | step _ hw _ ih => exact O.clo _ ih _ (by rw [Int.toNat_natCast]; exact hw)
  · intro h
    obtain ⟨i, hi⟩ := List.getElem?_of_mem h
    have key : ∀ (m i v : Nat), i ≤ m → (orderF ss)[i]? = some (v : Int) → Rch ss [0] (-1) v := by
      intro m
      induction m with
      | zero =>
        intro i v hm hi
        obtain rfl : i = 0 := by omega
        rw [O.first] at hi
        injection hi with hi
        exact .start (by simp; omega) (by omega)
      | succ m ih =>
        intro i v hm hi
        by_cases e : (v : Int) = 0
        · exact .start (by simp; omega) (by omega)
        · obtain ⟨j, p, h1, h2, h3⟩ := O.from_ i _ hi e
          have hp := O.low p (List.mem_of_getElem? h2)
          have hpe : ((p.toNat : Nat) : Int) = p := Int.toNat_of_nonneg hp.1
          exact .step (ih j p.toNat (by omega) (by rw [hpe]; exact h2)) h3 (by omega)
    exact key i i v (Nat.le_refl _) hi

theorem doms_way {pl : Nat → Nat} {up : List Int} (D : Doms ss.length (fun v => (v : Int) ∈ orderF ss) pl (predsF ss) up) {a e : Nat} (ha : Anc up a e) (h : Rch ss [0] (a : Int) e) : False := by
  have key : ∀ v, Rch ss [0] (a : Int) v → Anc up a v → False := by
    intro v h
    induction h with
    | start h hb =>
      simp only [List.mem_singleton] at h
      intro ha
      rename_i v
      obtain rfl : v = 0 := by omega
      cases ha with
      | refl => exact hb rfl
      | step h0 _ _ => exact h0 rfl
    | step hk hw hb ih =>
      rename_i k w
      intro ha
      have hRk := (rch_order hs hn).1 hk.any
      have hRw := (rch_order hs hn).1 (hk.step hw hb).any
      obtain ⟨h0, hd, h1⟩ := D.T.anc_step ha (fun e => hb (by rw [e]))
      exact ih (D.law w k a hRw h0 ((pr_iff hs (D.low _ hRw)).2 hw) hRk h1)
  exact key e h ha
end

structure Lp where
  head : Int
  blocks : List Int
  backs : List Int
  up : Int

structure LpOK (ss : List (List Int)) (x : Lp) : Prop where
  head : 0 ≤ x.head ∧ x.head < ss.length
  mem : ∀ k : Nat, (k : Int) ∈ x.blocks ↔ k < ss.length ∧ (Rch (predsF ss) x.backs x.head k ∨ (k : Int) = x.head)
  low : ∀ k, k ∈ x.blocks → 0 ≤ k
  backs : ∀ e, e ∈ x.backs → 0 ≤ e ∧ e < ss.length ∧ Rch ss [0] (-1) e.toNat ∧ Rch ss [0] (-1) x.head.toNat ∧ ¬ Rch ss [0] x.head e.toNat

section
variable {ss : List (List Int)} (hs : Edges ss) {x : Lp} (L : LpOK ss x)
include hs L
theorem LpOK.into {k b : Nat} (hb : (b : Int) ∈ ss.getD k []) (hm : (b : Int) ∈ x.blocks) (hne : (b : Int) ≠ x.head) : (k : Int) ∈ x.blocks := by
  have hk := getD_lt hb
  obtain ⟨h1, h2 | h2⟩ := (L.mem b).1 hm
  · rw [L.mem k]
    refine ⟨hk, ?_⟩
    by_cases e : (k : Int) = x.head
    · exact .inr e
    · refine .inl (.step h2 ?_ e)
      exact (preds_mem hs h1).2 ⟨by omega, by rw [Int.toNat_natCast]; exact hb⟩
  · exact absurd h2 hne
theorem LpOK.ahead {k : Nat} (hm : (k : Int) ∈ x.blocks) (hne : (k : Int) ≠ x.head) (hr : Rch ss [0] x.head k) : False := by
  obtain ⟨_, h2 | h2⟩ := (L.mem k).1 hm
  · have key : ∀ v, Rch (predsF ss) x.backs x.head v → Rch ss [0] x.head v → False := by
      intro v h
      induction h with
      | start h hb =>
        rename_i v
        intro hr
        have := (L.backs _ h).2.2.2.2
        rw [Int.toNat_natCast] at this
        exact this hr
      | step hk hw hb ih =>
        rename_i k w
        intro hr
        have hkl : k < (predsF ss).length := getD_lt hw
        rw [predsF_len] at hkl
        have h3 := (preds_mem hs hkl).1 hw
        rw [Int.toNat_natCast] at h3
        exact ih (hr.step h3.2 hk.not_but)
    exact key k h2 hr
  · exact hne h2
theorem LpOK.head_in : x.head ∈ x.blocks := by
  have h := L.head
  have := (L.mem x.head.toNat).2 ⟨by omega, .inr (by omega)⟩
  rwa [Int.toNat_of_nonneg h.1] at this
theorem LpOK.head_met {k : Nat} (hm : (k : Int) ∈ x.blocks) (hr : Rch ss [0] (-1) k) : Rch ss [0] (-1) x.head.toNat := by
  obtain ⟨_, h2 | h2⟩ := (L.mem k).1 hm
  · have key : ∀ v, Rch (predsF ss) x.backs x.head v → Rch ss [0] (-1) x.head.toNat := by
      intro v h
      induction h with
      | start h _ => exact (L.backs _ h).2.2.2.1
      | step _ _ _ ih => exact ih
    exact key k h2
  · rw [← h2, Int.toNat_natCast]; exact hr
end

theorem nested_law {ss : List (List Int)} (hs : Edges ss) {x y : Lp} (L : LpOK ss x) (M : LpOK ss y) {k : Nat} (hr : Rch ss [0] (-1) k) (hx : (k : Int) ∈ x.blocks) (hy : (k : Int) ∈ y.blocks) : y.head ∈ x.blocks ∨ x.head ∈ y.blocks := by
  induction hr with
  | @start v h _ =>
    by_cases e : (v : Int) = x.head
    · exact .inr (e ▸ hy)
    · exact absurd (Rch.start h e) (fun h => L.ahead hs hx e h)
  | @step k w hk hw hb ih =>
    by_cases e : (w : Int) = x.head
    · exact .inr (e ▸ hy)
    · by_cases e' : (w : Int) = y.head
      · exact .inl (e' ▸ hx)
      · exact ih (L.into hs hw hx e) (M.into hs hw hy e')
end Go.Proofs.YtdkknhpdjcdmfaaGreat.Abs

/- Does a block stand ahead of another one, by the tree? -/
set_option linter.unusedSimpArgs false
set_option linter.unusedVariables false
namespace Go.Proofs.YtdkknhpdjcdmfaaGreat.Abs
open Go Go.RowKit Go.Proofs

def Deep (n : Nat) (up dp : List Int) : Prop := ∀ v, v < n → Done up v → v ≠ 0 → ∃ x, dp[nx up v]? = some x ∧ dp[v]? = some (x + 1)
theorem deep_anc {n : Nat} {pl : Nat → Nat} {up dp : List Int} (T : Tr n pl up) (hd : Deep n up dp) (hl : dp.length = n) {a v : Nat} (h : Anc up a v) : v < n → Done up v → ∃ x y, dp[a]? = some x ∧ dp[v]? = some y ∧ x ≤ y ∧ (a ≠ v → x < y) := by
  induction h with
  | refl =>
    intro hv _
    exact ⟨_, _, List.getElem?_eq_getElem (by omega), List.getElem?_eq_getElem (by omega), by omega, fun h => absurd rfl h⟩
  | step h0 hdn _ ih =>
    intro hv dv
    obtain ⟨g1, g2, g3⟩ := T.link _ hv dv h0
    obtain ⟨x, y, e1, e2, e3, _⟩ := ih g1 g2
    obtain ⟨z, k1, k2⟩ := hd _ hv dv h0
    rw [e2] at k1
    injection k1 with k1
    exact ⟨x, _, e1, k2, by omega, fun _ => by omega⟩
def ahS (h : Heap) (up dp : List Int) (kids : List (List Int)) (r : Bool) (a b : Nat) : St := ⟨[(1, I (a : Nat)), (2, I (b : Nat)), (0, treeV up dp kids)], h, []⟩
theorem ah_loop (h : Heap) (up dp : List Int) (kids : List (List Int)) {n : Nat} {pl : Nat → Nat} (T : Tr n pl up) (hd : DepOK n 1000 dp) (hdx : Deep n up dp) (a b : Nat) (ha : a < n) (hb : b < n) (db : Done up b) :
    ∃ c : Nat, c < n ∧ Done up c ∧ Anc up c b ∧ (Anc up a b → a = c) ∧ lpK 71 Tryz.f71 76 0 h (ahS h up dp kids false a b) = some (.exit 0, ahS h up dp kids false a c) := by
  have q := qt71
  simp [Tryz.f71, quietFn, quietRegs] at q
  have hul := T.len
  have lkn : ∀ v, v < n → Done up v → up[v]? = some (nx up v : Int) := fun v hv hd => by
    have : up[v]? = some (up.getD v (-1)) := by rw [List.getD, List.getElem?_eq_getElem (by omega)]; rfl
    rw [this]
    unfold Done lk at hd
    unfold nx lk
    congr 1
    omega
  have key := loop_rel (P := Tryz.prog) (C := cfg) (sc := runScope Tryz.prog cfg 76 h.length (cfg.live 71) 0) (N := 76) (n0 := h.length) (K := cfg.live 71) (c := loopAt Tryz.f71 0)
    (fun b : Nat => ahS h up dp kids false a b) (fun b => b < n ∧ Done up b) (fun b => pl b) (fun b r => ∃ c : Nat, c < n ∧ Done up c ∧ Anc up c b ∧ (Anc up a b → a = c) ∧ r = (.exit 0, ahS h up dp kids false a c)) ?_ b ⟨hb, db⟩
  · obtain ⟨r, h1, c, c1, c2, c3, c4, rfl⟩ := key
    exact ⟨c, c1, c2, c3, c4, h1⟩
  rintro b ⟨jb, jd⟩
  obtain ⟨hdl, hd0, hdr⟩ := hd
  obtain ⟨x, hx⟩ : ∃ x, dp[a]? = some x := ⟨_, List.getElem?_eq_getElem (by omega)⟩
  obtain ⟨y, hy⟩ : ∃ y, dp[b]? = some y := ⟨_, List.getElem?_eq_getElem (by omega)⟩
  have hxr := hdr x (List.mem_of_getElem? hx)
  have hUb := lkn b jb jd
  by_cases hlt : x < y
  · have h0 : b ≠ 0 := fun e => by
      subst e
      rw [hd0] at hy
      injection hy with hy
      omega
    obtain ⟨g1, g2, g3⟩ := T.link b jb jd h0
    refine .inl ⟨nx up b, ?_, ⟨g1, g2⟩, g3, ?_⟩
    · simp (disch := (first | omega | simp (disch := omega) [])) [round_eq, ahS, treeV, Tryz.f71, lv71, q, hx, hy, hUb, hlt, hul, hdl, ha, jb, -getElem?_pos]
    · rintro r ⟨c, c1, c2, c3, c4, c5⟩
      refine ⟨c, c1, c2, .step h0 jd c3, fun hab => ?_, c5⟩
      have hne : a ≠ b := fun e => by
        subst e
        rw [hx] at hy
        injection hy with hy
        omega
      exact c4 (T.anc_step hab hne).2.2
  · refine .inr ⟨(.exit 0, ahS h up dp kids false a b), ?_, nofun, b, jb, jd, .refl b, fun hab => ?_, rfl⟩
    · simp (disch := (first | omega | simp (disch := omega) [])) [round_eq, ahS, treeV, Tryz.f71, lv71, q, hx, hy, hUb, hlt, hul, hdl, ha, jb, -getElem?_pos]
    · obtain ⟨x', y', e1, e2, e3, e4⟩ := deep_anc T hdx hdl hab jb jd
      rw [hx] at e1
      rw [hy] at e2
      injection e1 with e1
      injection e2 with e2
      apply Classical.byContradiction
      intro hne
      have := e4 hne
      omega

theorem ahead (h : Heap) (up dp : List Int) (kids : List (List Int)) {n : Nat} {pl : Nat → Nat} (T : Tr n pl up) (hd : DepOK n 1000 dp) (hdx : Deep n up dp) (hn : n ≤ 1000) (a b : Int) :
    ∃ r : Bool, CX 71 [treeV up dp kids, I a, I b] h = some (Bo r, h, []) ∧ (r = true ↔ ∃ x y : Nat, a = (x : Int) ∧ b = (y : Int) ∧ x < n ∧ y < n ∧ Done up x ∧ Done up y ∧ Anc up x y) := by
  have hul := T.len
  have hdl := hd.1
  have hk : cfg.keep 71 = 0 := rfl
  by_cases ha0 : a < 0
  · refine ⟨false, CI_of Tryz.func71 rfl 0 ?_, nofun, fun ⟨x, y, e1, _⟩ => by omega⟩
    simp (disch := (first | omega | simp (disch := omega) [])) [Tryz.f71, lv71, hk, treeV, ha0, -getElem?_pos]
  by_cases hb0 : b < 0
  · refine ⟨false, CI_of Tryz.func71 rfl 0 ?_, nofun, fun ⟨x, y, _, e2, _⟩ => by omega⟩
    simp (disch := (first | omega | simp (disch := omega) [])) [Tryz.f71, lv71, hk, treeV, ha0, hb0, -getElem?_pos]
  obtain ⟨x, rfl⟩ : ∃ x : Nat, a = (x : Int) := ⟨a.toNat, by omega⟩
  obtain ⟨y, rfl⟩ : ∃ y : Nat, b = (y : Int) := ⟨b.toNat, by omega⟩
  by_cases hxn : x < n
  · by_cases hyn : y < n
    · obtain ⟨ux, hux⟩ : ∃ ux, up[x]? = some ux := ⟨_, List.getElem?_eq_getElem (by omega)⟩
      obtain ⟨uy, huy⟩ : ∃ uy, up[y]? = some uy := ⟨_, List.getElem?_eq_getElem (by omega)⟩
      have hlx : lk up x = ux := by unfold lk; rw [List.getD, hux]; rfl
      have hly : lk up y = uy := by unfold lk; rw [List.getD, huy]; rfl
      have hxI : ¬ ((n : Nat) : Int) ≤ ((x : Nat) : Int) := by omega
      have hyI : ¬ ((n : Nat) : Int) ≤ ((y : Nat) : Int) := by omega
      have hxN : ¬ n ≤ x := by omega
      have hyN : ¬ n ≤ y := by omega
      by_cases hx1 : ux < 0
      · refine ⟨false, CI_of Tryz.func71 rfl 0 ?_, nofun, fun ⟨x', y', e1, _, _, _, d, _⟩ => by
          obtain rfl : x = x' := by omega
          unfold Done at d
          omega⟩
        simp (disch := (first | omega | simp (disch := omega) [])) [Tryz.f71, lv71, hk, treeV, ha0, hb0, hux, huy, hx1, hul, hxn, hyn, hxI, hyI, hxN, hyN, -getElem?_pos]
      by_cases hy1 : uy < 0
      · refine ⟨false, CI_of Tryz.func71 rfl 0 ?_, nofun, fun ⟨x', y', _, e2, _, _, _, d, _⟩ => by
          obtain rfl : y = y' := by omega
          unfold Done at d
          omega⟩
        simp (disch := (first | omega | simp (disch := omega) [])) [Tryz.f71, lv71, hk, treeV, ha0, hb0, hux, huy, hx1, hy1, hul, hxn, hyn, hxI, hyI, hxN, hyN, -getElem?_pos]
      have dx : Done up x := by unfold Done; omega
      have dy : Done up y := by unfold Done; omega
      obtain ⟨c, c1, c2, c3, c4, e⟩ := ah_loop h up dp kids T hd hdx x y hxn hyn dy
      refine ⟨decide (x = c), CI_of Tryz.func71 rfl 0 ?_, fun hr => ⟨x, y, rfl, rfl, hxn, hyn, dx, dy, by rw [of_decide_eq_true hr]; exact c3⟩, fun ⟨x', y', e1, e2, _, _, _, _, hxy⟩ => by
        obtain rfl : x = x' := by omega
        obtain rfl : y = y' := by omega
        exact decide_eq_true (c4 hxy)⟩
      simp [ahS, treeV, lpK, lv71, Tryz.f71] at e
      simp (disch := (first | omega | simp (disch := omega) [])) [Tryz.f71, lv71, hk, treeV, ha0, hb0, hux, huy, hx1, hy1, hul, hxn, hyn, hxI, hyI, hxN, hyN, e, -getElem?_pos]
      exact Bool.eq_iff_iff.2 (by simp; omega)
    · refine ⟨false, CI_of Tryz.func71 rfl 0 ?_, nofun, fun ⟨x', y', _, e2, _, hy', _⟩ => by omega⟩
      have hxI : ¬ ((n : Nat) : Int) ≤ ((x : Nat) : Int) := by omega
      have hyI : ((n : Nat) : Int) ≤ ((y : Nat) : Int) := by omega
      have hxN : ¬ n ≤ x := by omega
      have hyN : n ≤ y := by omega
      simp (disch := (first | omega | simp (disch := omega) [])) [Tryz.f71, lv71, hk, treeV, ha0, hb0, hul, hxn, hyn, hxI, hyI, hxN, hyN, -getElem?_pos]
  · refine ⟨false, CI_of Tryz.func71 rfl 0 ?_, nofun, fun ⟨x', y', e1, _, hx', _⟩ => by omega⟩
    have hxI : ((n : Nat) : Int) ≤ ((x : Nat) : Int) := by omega
    have hxN : n ≤ x := by omega
    simp (disch := (first | omega | simp (disch := omega) [])) [Tryz.f71, lv71, hk, treeV, ha0, hb0, hul, hxn, hxI, hxN, -getElem?_pos]
end Go.Proofs.YtdkknhpdjcdmfaaGreat.Abs

/- Who stands ahead of whom, told by ways; the edges that go back. -/
set_option linter.unusedSimpArgs false
set_option linter.unusedVariables false
set_option linter.unusedSectionVars false
namespace Go.Proofs.YtdkknhpdjcdmfaaGreat.Abs
open Go Go.RowKit Go.Proofs

def AhP (ss : List (List Int)) (a b : Nat) : Prop := Rch ss [0] (-1) a ∧ Rch ss [0] (-1) b ∧ (a = b ∨ ¬ Rch ss [0] (a : Int) b)
noncomputable def ahB (ss : List (List Int)) (a b : Int) : Bool := @decide (0 ≤ a ∧ 0 ≤ b ∧ AhP ss a.toNat b.toNat) (Classical.propDecidable _)
theorem ahB_iff {ss : List (List Int)} {a b : Int} : ahB ss a b = true ↔ 0 ≤ a ∧ 0 ≤ b ∧ AhP ss a.toNat b.toNat := by
  unfold ahB; exact @decide_eq_true_iff _ (Classical.propDecidable _)
theorem ahB_nat {ss : List (List Int)} {a b : Nat} : ahB ss (a : Int) (b : Int) = true ↔ AhP ss a b := by
  rw [ahB_iff, Int.toNat_natCast, Int.toNat_natCast]
  exact ⟨fun h => h.2.2, fun h => ⟨by omega, by omega, h⟩⟩
section
variable {ss : List (List Int)} (hs : Edges ss) (hn : 0 < ss.length)
include hs hn
theorem wy_rch {a v : Nat} (h : Wy (prOf (predsF ss)) a v) : Rch ss [0] (a : Int) v := by
  induction h with
  | zero h => exact .start (by simp) (by omega)
  | step hk hw hb ih =>
    have hv := getD_lt hw
    rw [predsF_len] at hv
    exact .step ih ((pr_iff hs hv).1 hw) (by omega)
theorem doms_exact {pl : Nat → Nat} {up : List Int} (D : Doms ss.length (fun v => (v : Int) ∈ orderF ss) pl (predsF ss) up) {x y : Nat} : (x < ss.length ∧ y < ss.length ∧ Done up x ∧ Done up y ∧ Anc up x y) ↔ AhP ss x y := by
  constructor
  · rintro ⟨h1, h2, h3, h4, h5⟩
    exact ⟨(rch_order hs hn).2 ((D.done x h1).1 h3), (rch_order hs hn).2 ((D.done y h2).1 h4), .inr fun h => doms_way hs hn D h5 h⟩
  · rintro ⟨h1, h2, h3⟩
    have r1 := (rch_order hs hn).1 h1
    have r2 := (rch_order hs hn).1 h2
    have l1 := D.low x r1
    have l2 := D.low y r2
    refine ⟨l1, l2, (D.done x l1).2 r1, (D.done y l2).2 r2, ?_⟩
    rcases h3 with h3 | h3
    · rw [h3]; exact .refl y
    · exact D.full y r2 x fun h => h3 (wy_rch hs hn h)
end

noncomputable def stepE (ss : List (List Int)) (k : Nat) (acc : List (Int × Int)) (b : Int) : List (Int × Int) := if ahB ss b (k : Int) = true then acc ++ [((k : Int), b)] else acc
noncomputable def hdsN (ss : List (List Int)) : Nat → List (Int × Int)
  | 0 => []
  | i + 1 => (ss.getD i []).foldl (stepE ss i) (hdsN ss i)
theorem foldE_len (ss : List (List Int)) (k : Nat) : ∀ (xs : List Int) (acc : List (Int × Int)), (xs.foldl (stepE ss k) acc).length ≤ acc.length + xs.length
  | [], acc => by simp
  | x :: xs, acc => by
    have h1 := foldE_len ss k xs (stepE ss k acc x)
    have h2 : (stepE ss k acc x).length ≤ acc.length + 1 := by unfold stepE; split <;> simp
    simp only [List.foldl_cons, List.length_cons]
    omega
theorem hdsN_len {ss : List (List Int)} (hs : Edges ss) : ∀ i, i ≤ ss.length → (hdsN ss i).length ≤ 1000 * i
  | 0, _ => by simp [hdsN]
  | i + 1, hi => by
    have h1 := foldE_len ss i (ss.getD i []) (hdsN ss i)
    have h2 := hdsN_len hs i (by omega)
    have h3 : (ss.getD i []).length ≤ 1000 := by
      rw [List.getD, List.getElem?_eq_getElem (by omega)]
      exact (hs.each _ (List.getElem_mem _)).1
    show ((ss.getD i []).foldl (stepE ss i) (hdsN ss i)).length ≤ _
    omega
theorem foldE_back {ss : List (List Int)} {k : Nat} (e : Int × Int) : ∀ (xs : List Int) (acc : List (Int × Int)), e ∈ xs.foldl (stepE ss k) acc → e ∈ acc ∨ (e.1 = (k : Int) ∧ e.2 ∈ xs ∧ ahB ss e.2 (k : Int) = true)
  | [], acc, h => .inl h
  | x :: xs, acc, h => by
    rw [List.foldl_cons] at h
    rcases foldE_back e xs _ h with h | ⟨h1, h2, h3⟩
    · unfold stepE at h
      split at h
      · rename_i hx
        rcases List.mem_append.1 h with h | h
        · exact .inl h
        · rw [List.mem_singleton.1 h]; exact .inr ⟨rfl, by simp, hx⟩
      · exact .inl h
    · exact .inr ⟨h1, by simp [h2], h3⟩
theorem hdsN_back {ss : List (List Int)} {e : Int × Int} : ∀ i, e ∈ hdsN ss i → ∃ x y : Nat, e.2 = (x : Int) ∧ e.1 = (y : Int) ∧ y < i ∧ AhP ss x y
  | 0, h => by simp [hdsN] at h
  | i + 1, h => by
    rcases foldE_back e _ _ h with h | ⟨h1, h2, h3⟩
    · obtain ⟨x, y, a, b, c, d⟩ := hdsN_back i h
      exact ⟨x, y, a, b, by omega, d⟩
    · obtain ⟨g1, g2, g3⟩ := ahB_iff.1 h3
      rw [Int.toNat_natCast] at g3
      exact ⟨e.2.toNat, i, by omega, h1, by omega, g3⟩

def addB (hd : Int) (acc : List Int) (e : Int × Int) : List Int := if e.2 = hd then acc ++ [e.1] else acc
def backsOf (hd : Int) (es : List (Int × Int)) : List Int := es.foldl (addB hd) []
theorem addB_len (hd : Int) (acc : List Int) (e : Int × Int) : (addB hd acc e).length ≤ acc.length + 1 := by unfold addB; split <;> simp
theorem foldB_mem (hd : Int) : ∀ (es : List (Int × Int)) (acc : List Int) (x : Int), x ∈ es.foldl (addB hd) acc → x ∈ acc ∨ (x, hd) ∈ es
  | [], acc, x, h => .inl h
  | e :: es, acc, x, h => by
    rw [List.foldl_cons] at h
    rcases foldB_mem hd es _ x h with h | h
    · unfold addB at h
      split at h
      · rename_i he
        rcases List.mem_append.1 h with h | h
        · exact .inl h
        · rw [List.mem_singleton.1 h, ← he]; exact .inr (by simp)
      · exact .inl h
    · exact .inr (by simp [h])
theorem foldB_len (hd : Int) : ∀ (es : List (Int × Int)) (acc : List Int), (es.foldl (addB hd) acc).length ≤ acc.length + es.length
  | [], acc => by simp
  | e :: es, acc => by
    have h1 := foldB_len hd es (addB hd acc e)
    have h2 := addB_len hd acc e
    simp only [List.foldl_cons, List.length_cons]
    omega

noncomputable def bkN (ss : List (List Int)) (hd : Nat) : Nat → List Int
  | 0 => []
  | k + 1 => if (hd : Int) ∈ ss.getD k [] ∧ ahB ss (hd : Int) (k : Int) = true then bkN ss hd k ++ [(k : Int)] else bkN ss hd k
theorem backs_step {ss : List (List Int)} (hd k : Nat) : ∀ (xs : List Int) (acc : List (Int × Int)), xs.Nodup → (xs.foldl (stepE ss k) acc).foldl (addB (hd : Int)) [] = if (hd : Int) ∈ xs ∧ ahB ss (hd : Int) (k : Int) = true then acc.foldl (addB (hd : Int)) [] ++ [(k : Int)] else acc.foldl (addB (hd : Int)) []
  | [], acc, _ => by simp
  | x :: xs, acc, hn => by
    obtain ⟨h1, h2⟩ := List.nodup_cons.1 hn
    rw [List.foldl_cons, backs_step hd k xs _ h2]
    by_cases e : x = (hd : Int)
    · subst e
      rw [if_neg (fun h => h1 h.1)]
      unfold stepE
      by_cases ha : ahB ss (hd : Int) (k : Int) = true
      · rw [if_pos ha, if_pos ⟨by simp, ha⟩, List.foldl_append]
        simp [addB]
      · rw [if_neg ha, if_neg (fun h => ha h.2)]
    · have hf : (stepE ss k acc x).foldl (addB (hd : Int)) [] = acc.foldl (addB (hd : Int)) [] := by
        unfold stepE
        split
        · rw [List.foldl_append]
          simp [addB, e]
        · rfl
      rw [hf]
      have : ((hd : Int) ∈ x :: xs) ↔ (hd : Int) ∈ xs := by
        rw [List.mem_cons]
        exact ⟨fun h => h.resolve_left fun e' => e e'.symm, .inr⟩
      simp only [this]
theorem backs_hds {ss : List (List Int)} (hn : ∀ l, l ∈ ss → l.Nodup) (hd : Nat) : ∀ i, backsOf (hd : Int) (hdsN ss i) = bkN ss hd i
  | 0 => rfl
  | i + 1 => by
    have hnd : (ss.getD i []).Nodup := by
      rw [List.getD]
      cases he : ss[i]? with
      | none => exact List.nodup_nil
      | some l => exact hn l (List.mem_of_getElem? he)
    have := backs_step (ss := ss) hd i (ss.getD i []) (hdsN ss i) hnd
    have ih := backs_hds hn hd i
    unfold backsOf at ih ⊢
    rw [ih] at this
    show ((ss.getD i []).foldl (stepE ss i) (hdsN ss i)).foldl _ [] = _
    rw [this, bkN]
end Go.Proofs.YtdkknhpdjcdmfaaGreat.Abs

/- The edges that go back to a block that stands ahead. -/
set_option linter.unusedSimpArgs false
set_option linter.unusedVariables false
namespace Go.Proofs.YtdkknhpdjcdmfaaGreat.Abs
open Go Go.RowKit Go.Proofs

theorem pairsOf_snoc (xs : List (Int × Int)) (a b : Int) : pairsOf xs ++ [[.int .i64 a, .int .i64 b]] = pairsOf (xs ++ [(a, b)]) := by simp [pairsOf]
def heS (h : Heap) (ss : List (List Int)) (up dp : List Int) (kids : List (List Int)) (i : Nat) (v21 v20 v19 v5 : V) (es : List (Int × Int)) : St :=
  ⟨[(14, I (i : Nat)), (13, I (ss.length : Nat)), (12, Sl (listsOf ss)), (21, v21), (20, v20), (19, v19), (3, treeV up dp kids), (5, v5), (4, .one (.sl h.length 2 es.length 0 es.length))], h ++ [some (.row 2 (pairsOf es))], []⟩
theorem he_in (h : Heap) (ss : List (List Int)) (up dp : List Int) (kids : List (List Int)) (hah : ∀ h (a b : Int), CX 71 [treeV up dp kids, I a, I b] h = some (Bo (ahB ss a b), h, [])) (i k : Nat) (xs : List Int) (hx : xs.length ≤ 1000) (m : Nat) (hm : m ≤ 1000000) (es : List (Int × Int)) (hes : es.length ≤ m) :
    lpK 87 Tryz.f87 38 1 h (heS h ss up dp kids i (I (0 : Nat)) (I (xs.length : Nat)) (Sl (intsOf xs)) (I (k : Nat)) es) = some (.exit 2, heS h ss up dp kids i (I (xs.length : Nat)) (I (xs.length : Nat)) (Sl (intsOf xs)) (I (k : Nat)) (xs.foldl (stepE ss k) es)) := by
  refine loop_list (P := Tryz.prog) (C := cfg) (sc := runScope Tryz.prog cfg 38 h.length (cfg.live 87) 0) (N := 38) (n0 := h.length) (K := cfg.live 87) (c := loopAt Tryz.f87 1) xs (stepE ss k)
    (fun j es => heS h ss up dp kids i (I (j : Nat)) (I (xs.length : Nat)) (Sl (intsOf xs)) (I (k : Nat)) es) (fun es => (.exit 2, heS h ss up dp kids i (I (xs.length : Nat)) (I (xs.length : Nat)) (Sl (intsOf xs)) (I (k : Nat)) es)) (fun j es => es.length ≤ m + j) ?_ ?_ es hes
  · intro j es b hb j2
    have hlt := (List.getElem?_eq_some_iff.1 hb).1
    have hltI : ((j : Nat) : Int) < ((xs.length : Nat) : Int) := by omega
    have e := hah (h ++ [some (.row 2 (pairsOf es))]) b (k : Int)
    simp only [treeV] at e
    unfold stepE
    cases hr : ahB ss b (k : Int) with
    | true =>
      rw [hr] at e
      refine ⟨?_, by simp; omega⟩
      simp (disch := omega) [round_eq, heS, treeV, Tryz.f87, lv87, hb, hlt, hltI, e, wrap_i64, room_of, pairsOf_snoc, -getElem?_pos]
    | false =>
      rw [hr] at e
      refine ⟨?_, by simp; omega⟩
      simp (disch := omega) [round_eq, heS, treeV, Tryz.f87, lv87, hb, hlt, hltI, e, wrap_i64, room_of, pairsOf_snoc, -getElem?_pos]
  · intro es j2
    refine ⟨?_, nofun⟩
    simp (disch := omega) [round_eq, heS, treeV, Tryz.f87, lv87, -getElem?_pos]

def heO (h : Heap) (ss : List (List Int)) (up dp : List Int) (kids : List (List Int)) (i : Nat) (es : List (Int × Int)) : Option (List Int × Nat) → St
  | none => heS h ss up dp kids i .junk .junk .junk .junk es
  | some (xs, k) => heS h ss up dp kids i (I (xs.length : Nat)) (I (xs.length : Nat)) (Sl (intsOf xs)) (I (k : Nat)) es

theorem he_out (h : Heap) (ss : List (List Int)) (hs : Edges ss) (up dp : List Int) (kids : List (List Int)) (hah : ∀ h (a b : Int), CX 71 [treeV up dp kids, I a, I b] h = some (Bo (ahB ss a b), h, [])) :
    ∃ o, lpK 87 Tryz.f87 38 0 h (heO h ss up dp kids 0 [] none) = some (.exit 0, heO h ss up dp kids ss.length (hdsN ss ss.length) o) := by
  have hsl := hs.len
  have key := loop_rel (P := Tryz.prog) (C := cfg) (sc := runScope Tryz.prog cfg 38 h.length (cfg.live 87) 0) (N := 38) (n0 := h.length) (K := cfg.live 87) (c := loopAt Tryz.f87 0)
    (fun s : Nat × Option (List Int × Nat) => heO h ss up dp kids s.1 (hdsN ss s.1) s.2) (fun s => s.1 ≤ ss.length) (fun s => ss.length - s.1)
    (fun s r => ∃ o, r = (.exit 0, heO h ss up dp kids ss.length (hdsN ss ss.length) o)) ?_ (0, none) (Nat.zero_le _)
  · obtain ⟨r, h1, o, rfl⟩ := key
    exact ⟨o, h1⟩
  rintro ⟨i, o⟩ j1
  simp only at j1 ⊢
  have j2 := hdsN_len hs i j1
  rcases Nat.lt_or_ge i ss.length with hlt | hge
  · obtain ⟨l, hl⟩ : ∃ l, ss[i]? = some l := ⟨_, List.getElem?_eq_getElem hlt⟩
    have hltI : ((i : Nat) : Int) < ((ss.length : Nat) : Int) := by omega
    have hll := (hs.each l (List.mem_of_getElem? hl)).1
    have e := he_in h ss up dp kids hah i i l hll (1000 * i) (by omega) (hdsN ss i) j2
    have hgd : ss.getD i [] = l := by rw [List.getD, hl]; rfl
    have hnx : hdsN ss (i + 1) = l.foldl (stepE ss i) (hdsN ss i) := by rw [hdsN, hgd]
    refine .inl ⟨(i + 1, some (l, i)), ?_, hlt, by simp only; omega, fun r h => h⟩
    rw [hnx]
    generalize l.foldl (stepE ss i) (hdsN ss i) = es' at *
    generalize hdsN ss i = es at *
    simp [heS, treeV, lpK, lv87, Tryz.f87] at e
    cases o with
    | none => simp (disch := omega) [round_eq, heO, heS, treeV, Tryz.f87, lv87, hl, hlt, hltI, e, wrap_i64, -getElem?_pos]
    | some p => simp (disch := omega) [round_eq, heO, heS, treeV, Tryz.f87, lv87, hl, hlt, hltI, e, wrap_i64, -getElem?_pos]
  · have : i = ss.length := by omega
    subst this
    refine .inr ⟨(.exit 0, heO h ss up dp kids ss.length (hdsN ss ss.length) o), ?_, nofun, o, rfl⟩
    generalize hdsN ss ss.length = es at *
    cases o <;> simp (disch := omega) [round_eq, heO, heS, treeV, Tryz.f87, lv87, -getElem?_pos]

theorem tree_of (h : Heap) (f : Fn) (hf : f.Fine) (hn : 0 < f.blocks.length) (hn2 : f.blocks.length ≤ 12) :
    ∃ up dp kids, CX 61 [.agg (encFn f)] h = some (treeV up dp kids, h, []) ∧ (∀ h (a b : Int), CX 71 [treeV up dp kids, I a, I b] h = some (Bo (ahB (f.blocks.map nextB) a b), h, [])) ∧
      Doms f.blocks.length (fun v => (v : Int) ∈ orderF (f.blocks.map nextB)) (plF f.blocks.length (orderF (f.blocks.map nextB))) (predsF (f.blocks.map nextB)) up ∧ DepOK f.blocks.length 1000 dp ∧ Deep f.blocks.length up dp ∧ kids.length = f.blocks.length := by
  have hsl : (f.blocks.map nextB).length = f.blocks.length := by simp
  have hD := dom_in hf.edges (by omega)
  have hH := dom_hat hf.edges (by omega)
  rw [hsl] at hD hH
  obtain ⟨up, dp, kids, e1, D, hdp, hdx, hkn⟩ := domOf h f hf hn hn2 hD (fun l hl => by have := preds_len hf.edges l hl; omega) hH
  have hdeep : Deep f.blocks.length up dp := fun v hv dv h0 => hdx v ((D.done v hv).1 dv) h0
  refine ⟨up, dp, kids, e1, fun h a b => ?_, D, hdp, hdeep, hkn⟩
  obtain ⟨r, e, hr⟩ := ahead h up dp kids D.T hdp hdeep (by omega) a b
  have D' := D
  rw [← hsl] at D'
  have : r = ahB (f.blocks.map nextB) a b := by
    rw [Bool.eq_iff_iff, hr, ahB_iff]
    constructor
    · rintro ⟨x, y, rfl, rfl, h1, h2, h3⟩
      rw [Int.toNat_natCast, Int.toNat_natCast]
      exact ⟨by omega, by omega, (doms_exact hf.edges (by omega) D').1 ⟨by omega, by omega, h3⟩⟩
    · rintro ⟨h1, h2, h3⟩
      obtain ⟨g1, g2, g3⟩ := (doms_exact hf.edges (by omega) D').2 h3
      exact ⟨a.toNat, b.toNat, by omega, by omega, by omega, by omega, g3⟩
  rw [e, this]

theorem heads (h : Heap) (f : Fn) (hf : f.Fine) (hn : 0 < f.blocks.length) (hn2 : f.blocks.length ≤ 12) :
    CX 87 [.agg (encFn f)] h = some (Sl (pairsOf (hdsN (f.blocks.map nextB) f.blocks.length)), h, []) := by
  have hsl : (f.blocks.map nextB).length = f.blocks.length := by simp
  obtain ⟨up, dp, kids, e1, hah, _⟩ := tree_of (h ++ [some (.row 5 [encFn f])]) f hf hn hn2
  have e2 := fun h => succs h f hf.ok hf.ended (by omega)
  obtain ⟨o, e3⟩ := he_out h (f.blocks.map nextB) hf.edges up dp kids hah
  rw [hsl] at e3
  simp [encFn, treeV] at e1 e2
  refine CI_of Tryz.func87 rfl 0 ?_
  have hk : cfg.keep 87 = 0 := rfl
  generalize hdsN (f.blocks.map nextB) f.blocks.length = es at *
  cases o <;> simp [heO, heS, treeV, lpK, lv87, Tryz.f87] at e3 <;>
  simp (disch := omega) [Tryz.f87, lv87, hk, encFn, e1, e2, e3, -getElem?_pos]
end Go.Proofs.YtdkknhpdjcdmfaaGreat.Abs

/- Who is reached from some, in rounds: what is kept. -/
set_option linter.unusedSimpArgs false
set_option linter.unusedVariables false
namespace Go.Proofs.YtdkknhpdjcdmfaaGreat.Abs
open Go Go.RowKit Go.Proofs

def Mt (met : List Bool) (v : Nat) : Prop := met[v]? = some true
def Cl (E : List (List Int)) (but : Int) (met : List Bool) (k : Nat) : Prop := ∀ w, w ∈ E.getD k [] → w ≠ but → Mt met w.toNat
theorem mt_set {met : List Bool} {b v : Nat} (hb : b < met.length) : Mt (met.set b true) v ↔ v = b ∨ Mt met v := by
  unfold Mt
  rw [List.getElem?_set]
  by_cases e : b = v
  · subst e; simp [hb]
  · rw [if_neg e]
    exact ⟨.inr, fun h => h.resolve_left fun h' => e h'.symm⟩
theorem Cl.set {E : List (List Int)} {but : Int} {met : List Bool} {b k : Nat} (hb : b < met.length) (h : Cl E but met k) : Cl E but (met.set b true) k := fun w hw hn => (mt_set hb).2 (.inr (h w hw hn))
theorem unmet_set' {met : List Bool} {b : Nat} (hb : b < met.length) (h : ¬ Mt met b) : unmet (met.set b true) + 1 = unmet met := by
  refine unmet_set ?_
  unfold Mt at h
  rw [List.getElem?_eq_getElem hb] at h ⊢
  cases hx : met[b]
  · rfl
  · rw [hx] at h; exact absurd rfl h

structure RI (n : Nat) (E : List (List Int)) (from_ : List Int) (but : Int) (met : List Bool) (Q : Nat → Prop) : Prop where
  len : met.length = n
  sound : ∀ v, Mt met v → Rch E from_ but v
  clo : ∀ v, Mt met v → Q v ∨ Cl E but met v
theorem RI.mono {n : Nat} {E : List (List Int)} {from_ : List Int} {but : Int} {met : List Bool} {Q Q' : Nat → Prop} (h : RI n E from_ but met Q) (hq : ∀ v, Q v → Q' v ∨ Cl E but met v) : RI n E from_ but met Q' :=
  ⟨h.len, h.sound, fun v hv => by
    rcases h.clo v hv with h1 | h1
    · exact hq v h1
    · exact .inr h1⟩
theorem RI.set {n : Nat} {E : List (List Int)} {from_ : List Int} {but : Int} {met : List Bool} {Q : Nat → Prop} (h : RI n E from_ but met Q) {b : Nat} (hb : b < n) (hr : Rch E from_ but b) : RI n E from_ but (met.set b true) (fun v => Q v ∨ v = b) := by
  have hl := h.len
  refine ⟨by simpa using hl, fun v hv => ?_, fun v hv => ?_⟩
  · rcases (mt_set (by omega)).1 hv with e | hv
    · rw [e]; exact hr
    · exact h.sound v hv
  · rcases (mt_set (by omega)).1 hv with e | hv
    · exact .inl (.inr e)
    · rcases h.clo v hv with h1 | h1
      · exact .inl (.inl h1)
      · exact .inr (h1.set (by omega))
theorem RI.all {n : Nat} {E : List (List Int)} {from_ : List Int} {but : Int} {met : List Bool} (h : RI n E from_ but met (fun _ => False)) (hf : ∀ k, k ∈ from_ → k ≠ but → Mt met k.toNat) (v : Nat) : Mt met v ↔ Rch E from_ but v := by
  refine ⟨h.sound v, fun hr => ?_⟩
  induction hr with
  | start h' hb =>
    have := hf _ h' hb
    rwa [Int.toNat_natCast] at this
  | step hk hw hb ih =>
    rcases h.clo _ ih with h1 | h1
    · exact h1.elim
    · have := h1 _ hw hb
      rwa [Int.toNat_natCast] at this
end Go.Proofs.YtdkknhpdjcdmfaaGreat.Abs

/- Which blocks are reached from some, not by way of one. -/
set_option linter.unusedSimpArgs false
set_option linter.unusedVariables false
namespace Go.Proofs.YtdkknhpdjcdmfaaGreat.Abs
open Go Go.RowKit Go.Proofs

def slV (id : Nat) : Option (List Int) → V
  | none => .junk
  | some l => .one (.sl id 1 l.length 0 l.length)
def slO : Option (List Int) → Option AO
  | none => none
  | some l => some (.row 1 (intsOf l))
@[simp] theorem slV_none (id : Nat) : slV id none = .junk := rfl
@[simp] theorem slV_some (id : Nat) (l : List Int) : slV id (some l) = .one (.sl id 1 l.length 0 l.length) := rfl
@[simp] theorem slO_none : slO none = none := rfl
@[simp] theorem slO_some (l : List Int) : slO (some l) = some (.row 1 (intsOf l)) := rfl
theorem row_lo {h t : Heap} {k : Nat} (hk : k < h.length) (sz : Nat) : rowAt (h ++ t) k sz = rowAt h k sz := by
  simp only [rowAt, List.getElem?_append_left hk]

def rcS (h : Heap) (E : List (List Int)) (but : Int) (v21 v20 v19 : V) (met : List Bool) (o8 : Option (List Int)) (v45 v44 v52 v51 : V) (o50 : Option (List Int)) (v61 v60 v59 : V) (o11 : Option (List Int)) : St :=
  ⟨[(0, Sl (listsOf E)), (21, v21), (20, v20), (19, v19), (2, I but), (7, .one (.sl h.length 1 met.length 0 met.length)), (8, slV (h.length + 1) o8), (45, v45), (44, v44), (52, v52), (51, v51), (50, slV (h.length + 2) o50),
    (61, v61), (60, v60), (59, v59), (11, slV (h.length + 3) o11), (1021, .junk), (1020, .junk), (1019, .junk), (1008, .junk), (1061, .junk), (1060, .junk), (1059, .junk), (1011, .junk), (1052, .junk), (1051, .junk), (1050, .junk)],
   h ++ [some (.row 1 (boolsOf met)), slO o8, slO o50, slO o11], []⟩

def OpOK (E : List (List Int)) (from_ : List Int) (but : Int) (op : List Int) : Prop := ∀ x, x ∈ op → 0 ≤ x ∧ x < E.length ∧ Rch E from_ but x.toNat
theorem rc_a (h : Heap) (k : Nat) (hk : k < h.length) (E : List (List Int)) (but : Int) (from_ : List Int) (hr : rowAt h k from_.length = some (1, intsOf from_)) (hfl : from_.length ≤ 100000) (hE : E.length ≤ 1000) (hlow : ∀ x, x ∈ from_ → 0 ≤ x ∧ x < E.length) (met : List Bool) (hm : met = List.replicate E.length false) :
    ∃ met' op, RI E.length E from_ but met' (fun v => (v : Int) ∈ op) ∧ (∀ x, x ∈ from_ → x ≠ but → Mt met' x.toNat) ∧ OpOK E from_ but op ∧ op.length + unmet met' ≤ E.length ∧
    lpK 88 Tryz.f88 87 0 h (rcS h E but (I (0 : Nat)) (I (from_.length : Nat)) (.one (.sl k 1 from_.length 0 from_.length)) met (some []) .junk .junk .junk .junk none .junk .junk .junk none) =
      some (.exit 0, rcS h E but (I (from_.length : Nat)) (I (from_.length : Nat)) (.one (.sl k 1 from_.length 0 from_.length)) met' (some op) .junk .junk .junk .junk none .junk .junk .junk none) := by
  have hnk : ¬ h.length ≤ k := by omega
  have key := loop_rel (P := Tryz.prog) (C := cfg) (sc := runScope Tryz.prog cfg 87 h.length (cfg.live 88) 0) (N := 87) (n0 := h.length) (K := cfg.live 88) (c := loopAt Tryz.f88 0)
    (fun s : Nat × List Bool × List Int => rcS h E but (I (s.1 : Nat)) (I (from_.length : Nat)) (.one (.sl k 1 from_.length 0 from_.length)) s.2.1 (some s.2.2) .junk .junk .junk .junk none .junk .junk .junk none)
    (fun s => s.1 ≤ from_.length ∧ RI E.length E from_ but s.2.1 (fun v => (v : Int) ∈ s.2.2) ∧ (∀ (j : Nat) x, from_[j]? = some x → j < s.1 → x ≠ but → Mt s.2.1 x.toNat) ∧ OpOK E from_ but s.2.2 ∧ s.2.2.length + unmet s.2.1 ≤ E.length) (fun s => from_.length - s.1)
    (fun s r => ∃ met' op, RI E.length E from_ but met' (fun v => (v : Int) ∈ op) ∧ (∀ x, x ∈ from_ → x ≠ but → Mt met' x.toNat) ∧ OpOK E from_ but op ∧ op.length + unmet met' ≤ E.length ∧
      r = (.exit 0, rcS h E but (I (from_.length : Nat)) (I (from_.length : Nat)) (.one (.sl k 1 from_.length 0 from_.length)) met' (some op) .junk .junk .junk .junk none .junk .junk .junk none)) ?_ (0, met, []) ⟨Nat.zero_le _, ⟨by simp [hm], fun v hv => ?_, fun v hv => ?_⟩, fun j x _ hj => by omega, fun x hx => by simp at hx, by rw [hm]; simp [unmet_all]⟩
  · obtain ⟨r, h1, met', op, h2, h3, h4, h5, rfl⟩ := key
    exact ⟨met', op, h2, h3, h4, h5, h1⟩
  · rintro ⟨i, met, op⟩ ⟨j1, j2, j3, j4, j5⟩
    simp only at j1 j2 j3 j4 j5 ⊢
    have hml := j2.len
    rcases Nat.lt_or_ge i from_.length with hlt | hge
    · have hltI : ((i : Nat) : Int) < ((from_.length : Nat) : Int) := by omega
      obtain ⟨x, hx⟩ : ∃ x, from_[i]? = some x := ⟨_, List.getElem?_eq_getElem hlt⟩
      have hxm := List.mem_of_getElem? hx
      obtain ⟨x0, xl⟩ := hlow x hxm
      have xln : x.toNat < E.length := by omega
      have xlm : x.toNat < met.length := by omega
      obtain ⟨y, hy⟩ : ∃ y, met[x.toNat]? = some y := ⟨_, List.getElem?_eq_getElem xlm⟩
      by_cases hb : x = but
      · have hbI : (x != but) = false := by simp [hb]
        refine .inl ⟨(i + 1, met, op), ?_, ⟨hlt, j2, fun j z hz hj hn => ?_, j4, j5⟩, by simp only; omega, fun r h => h⟩
        · simp (disch := (first | omega | simp (disch := omega) [])) [round_eq, rcS, Tryz.f88, lv88, hnk, row_lo hk, hr, hx, hlt, hltI, hbI, hb, wrap_i64, -getElem?_pos]
        · rcases Nat.lt_or_ge j i with hji | hji
          · exact j3 j z hz hji hn
          · have : j = i := by simp only at hj; omega
            subst this
            rw [hx] at hz; cases hz
            exact absurd hb hn
      · have hbI : (x != but) = true := by simp [hb]
        cases y with
        | true =>
          refine .inl ⟨(i + 1, met, op), ?_, ⟨hlt, j2, fun j z hz hj hn => ?_, j4, j5⟩, by simp only; omega, fun r h => h⟩
          · simp (disch := (first | omega | simp (disch := omega) [])) [round_eq, rcS, Tryz.f88, lv88, hnk, row_lo hk, hr, hx, hlt, hltI, hbI, x0, xlm, hy, wrap_i64, -getElem?_pos]
          · rcases Nat.lt_or_ge j i with hji | hji
            · exact j3 j z hz hji hn
            · have : j = i := by simp only at hj; omega
              subst this
              rw [hx] at hz; cases hz
              exact hy
        | false =>
          have hnm : ¬ Mt met x.toNat := by unfold Mt; rw [hy]; simp
          have hun := unmet_set' xlm hnm
          have hrx : Rch E from_ but x.toNat := .start (by rw [Int.toNat_of_nonneg x0]; exact hxm) (by rw [Int.toNat_of_nonneg x0]; exact hb)
          have hset := j2.set xln hrx
          refine .inl ⟨(i + 1, met.set x.toNat true, op ++ [x]), ?_, ⟨hlt, hset.mono fun v hv => .inl ?_, fun j z hz hj hn => (mt_set xlm).2 ?_, fun z hz => ?_, ?_⟩, by simp only; omega, fun r h => h⟩
          · simp (disch := (first | omega | simp (disch := omega) [])) [round_eq, rcS, Tryz.f88, lv88, hnk, row_lo hk, hr, hx, hlt, hltI, hbI, x0, xlm, hy, wrap_i64, room_of, boolsOf_set, intsOf_snoc, -getElem?_pos]
          · rcases hv with hv | rfl
            · simp [hv]
            · simp; right; omega
          · rcases Nat.lt_or_ge j i with hji | hji
            · exact .inr (j3 j z hz hji hn)
            · have : j = i := by simp only at hj; omega
              subst this
              rw [hx] at hz; cases hz
              exact .inl rfl
          · rcases List.mem_append.1 hz with hz | hz
            · exact j4 z hz
            · rw [List.mem_singleton.1 hz]; exact ⟨x0, xl, hrx⟩
          · simp; omega
    · have : i = from_.length := by omega
      subst this
      refine .inr ⟨(.exit 0, rcS h E but (I (from_.length : Nat)) (I (from_.length : Nat)) (.one (.sl k 1 from_.length 0 from_.length)) met (some op) .junk .junk .junk .junk none .junk .junk .junk none), ?_, nofun, met, op, j2, fun x hx hn => ?_, j4, j5, rfl⟩
      · simp (disch := (first | omega | simp (disch := omega) [])) [round_eq, rcS, Tryz.f88, lv88, hnk, -getElem?_pos]
      · obtain ⟨j, hj⟩ := List.getElem?_of_mem hx
        exact j3 j x hj (List.getElem?_eq_some_iff.1 hj).1 hn
  · rw [hm] at hv; unfold Mt at hv; rw [List.getElem?_replicate] at hv; split at hv <;> simp at hv
  · rw [hm] at hv; unfold Mt at hv; rw [List.getElem?_replicate] at hv; split at hv <;> simp at hv
end Go.Proofs.YtdkknhpdjcdmfaaGreat.Abs

/- Which blocks are reached from some: round by round. -/
set_option linter.unusedSimpArgs false
set_option linter.unusedVariables false
set_option linter.unusedSectionVars false
namespace Go.Proofs.YtdkknhpdjcdmfaaGreat.Abs
open Go Go.RowKit Go.Proofs

section
variable (h : Heap) (E : List (List Int)) (but : Int) (from_ : List Int) (hE : E.length ≤ 1000) (hEl : ∀ l, l ∈ E → l.length ≤ 100000 ∧ ∀ x, x ∈ l → 0 ≤ x ∧ x < E.length)
include hE hEl

theorem rc_d (i j : Nat) (op es : List Int) (k : Nat) (hk : E[k]? = some es) (hRk : Rch E from_ but k) (Q : Nat → Prop) (U : Nat) (hU : U ≤ 1000) (met : List Bool) (nx : List Int)
    (g1 : RI E.length E from_ but met (fun v => v = k ∨ Q v ∨ (v : Int) ∈ nx)) (g2 : ∀ x, x ∈ from_ → x ≠ but → Mt met x.toNat) (g3 : OpOK E from_ but nx) (g4 : nx.length + unmet met ≤ U) :
    ∃ met' nx', RI E.length E from_ but met' (fun v => Q v ∨ (v : Int) ∈ nx') ∧ (∀ x, x ∈ from_ → x ≠ but → Mt met' x.toNat) ∧ OpOK E from_ but nx' ∧ nx'.length + unmet met' ≤ U ∧
    lpK 88 Tryz.f88 87 3 h (rcS h E but .junk .junk .junk met none (I (i : Nat)) (I (E.length : Nat)) (I (j : Nat)) (I (op.length : Nat)) (some op) (I (0 : Nat)) (I (es.length : Nat)) (Sl (intsOf es)) (some nx)) =
      some (.exit 6, rcS h E but .junk .junk .junk met' none (I (i : Nat)) (I (E.length : Nat)) (I (j : Nat)) (I (op.length : Nat)) (some op) (I (es.length : Nat)) (I (es.length : Nat)) (Sl (intsOf es)) (some nx')) := by
  obtain ⟨hes, heb⟩ := hEl es (List.mem_of_getElem? hk)
  have hgd : E.getD k [] = es := by rw [List.getD, hk]; rfl
  have key := loop_rel (P := Tryz.prog) (C := cfg) (sc := runScope Tryz.prog cfg 87 h.length (cfg.live 88) 0) (N := 87) (n0 := h.length) (K := cfg.live 88) (c := loopAt Tryz.f88 3)
    (fun s : Nat × List Bool × List Int => rcS h E but .junk .junk .junk s.2.1 none (I (i : Nat)) (I (E.length : Nat)) (I (j : Nat)) (I (op.length : Nat)) (some op) (I (s.1 : Nat)) (I (es.length : Nat)) (Sl (intsOf es)) (some s.2.2))
    (fun s => s.1 ≤ es.length ∧ RI E.length E from_ but s.2.1 (fun v => v = k ∨ Q v ∨ (v : Int) ∈ s.2.2) ∧ (∀ x, x ∈ from_ → x ≠ but → Mt s.2.1 x.toNat) ∧ OpOK E from_ but s.2.2 ∧ s.2.2.length + unmet s.2.1 ≤ U ∧ ∀ (t : Nat) w, es[t]? = some w → t < s.1 → w ≠ but → Mt s.2.1 w.toNat) (fun s => es.length - s.1)
    (fun s r => ∃ met' nx', RI E.length E from_ but met' (fun v => Q v ∨ (v : Int) ∈ nx') ∧ (∀ x, x ∈ from_ → x ≠ but → Mt met' x.toNat) ∧ OpOK E from_ but nx' ∧ nx'.length + unmet met' ≤ U ∧
      r = (.exit 6, rcS h E but .junk .junk .junk met' none (I (i : Nat)) (I (E.length : Nat)) (I (j : Nat)) (I (op.length : Nat)) (some op) (I (es.length : Nat)) (I (es.length : Nat)) (Sl (intsOf es)) (some nx'))) ?_ (0, met, nx) ⟨Nat.zero_le _, g1, g2, g3, g4, fun t w _ ht => by omega⟩
  · obtain ⟨r, h1, met', nx', h2, h3, h4, h5, rfl⟩ := key
    exact ⟨met', nx', h2, h3, h4, h5, h1⟩
  clear g1 g2 g3 g4 met nx
  rintro ⟨p, met, nx⟩ ⟨j1, j2, j3, j4, j5, j6⟩
  simp only at j1 j2 j3 j4 j5 j6 ⊢
  have hml := j2.len
  rcases Nat.lt_or_ge p es.length with hlt | hge
  · have hltI : ((p : Nat) : Int) < ((es.length : Nat) : Int) := by omega
    obtain ⟨x, hx⟩ : ∃ x, es[p]? = some x := ⟨_, List.getElem?_eq_getElem hlt⟩
    have hxm := List.mem_of_getElem? hx
    obtain ⟨x0, xl⟩ := heb x hxm
    have xln : x.toNat < E.length := by omega
    have xlm : x.toNat < met.length := by omega
    obtain ⟨y, hy⟩ : ∃ y, met[x.toNat]? = some y := ⟨_, List.getElem?_eq_getElem xlm⟩
    by_cases hb : x = but
    · have hbI : (x != but) = false := by simp [hb]
      refine .inl ⟨(p + 1, met, nx), ?_, ⟨hlt, j2, j3, j4, j5, fun t w hw ht hn => ?_⟩, by simp only; omega, fun r h => h⟩
      · simp (disch := (first | omega | simp (disch := omega) [])) [round_eq, rcS, Tryz.f88, lv88, hx, hlt, hltI, hbI, hb, wrap_i64, -getElem?_pos]
      · rcases Nat.lt_or_ge t p with hji | hji
        · exact j6 t w hw hji hn
        · have : t = p := by simp only at ht; omega
          subst this
          rw [hx] at hw; cases hw
          exact absurd hb hn
    · have hbI : (x != but) = true := by simp [hb]
      cases y with
      | true =>
        refine .inl ⟨(p + 1, met, nx), ?_, ⟨hlt, j2, j3, j4, j5, fun t w hw ht hn => ?_⟩, by simp only; omega, fun r h => h⟩
        · simp (disch := (first | omega | simp (disch := omega) [])) [round_eq, rcS, Tryz.f88, lv88, hx, hlt, hltI, hbI, x0, xlm, hy, wrap_i64, -getElem?_pos]
        · rcases Nat.lt_or_ge t p with hji | hji
          · exact j6 t w hw hji hn
          · have : t = p := by simp only at ht; omega
            subst this
            rw [hx] at hw; cases hw
            exact hy
      | false =>
        have hnm : ¬ Mt met x.toNat := by unfold Mt; rw [hy]; simp
        have hun := unmet_set' xlm hnm
        have hrx : Rch E from_ but x.toNat := .step hRk (by rw [Int.toNat_of_nonneg x0, hgd]; exact hxm) (by rw [Int.toNat_of_nonneg x0]; exact hb)
        have hset := j2.set xln hrx
        refine .inl ⟨(p + 1, met.set x.toNat true, nx ++ [x]), ?_, ⟨hlt, hset.mono fun v hv => .inl ?_, fun x' hx' hn' => (mt_set xlm).2 (.inr (j3 x' hx' hn')), fun z hz => ?_, ?_, fun t w hw ht hn => (mt_set xlm).2 ?_⟩, by simp only; omega, fun r h => h⟩
        · simp (disch := (first | omega | simp (disch := omega) [])) [round_eq, rcS, Tryz.f88, lv88, hx, hlt, hltI, hbI, x0, xlm, hy, wrap_i64, room_of, boolsOf_set, intsOf_snoc, -getElem?_pos]
        · rcases hv with (hv | hv | hv) | rfl
          · exact .inl hv
          · exact .inr (.inl hv)
          · exact .inr (.inr (by simp [hv]))
          · exact .inr (.inr (by simp; right; omega))
        · rcases List.mem_append.1 hz with hz | hz
          · exact j4 z hz
          · rw [List.mem_singleton.1 hz]; exact ⟨x0, xl, hrx⟩
        · simp; omega
        · rcases Nat.lt_or_ge t p with hji | hji
          · exact .inr (j6 t w hw hji hn)
          · have : t = p := by simp only at ht; omega
            subst this
            rw [hx] at hw; cases hw
            exact .inl rfl
  · have : p = es.length := by omega
    subst this
    refine .inr ⟨(.exit 6, rcS h E but .junk .junk .junk met none (I (i : Nat)) (I (E.length : Nat)) (I (j : Nat)) (I (op.length : Nat)) (some op) (I (es.length : Nat)) (I (es.length : Nat)) (Sl (intsOf es)) (some nx)), ?_, nofun, met, nx, j2.mono fun v hv => ?_, j3, j4, j5, rfl⟩
    · simp (disch := (first | omega | simp (disch := omega) [])) [round_eq, rcS, Tryz.f88, lv88, -getElem?_pos]
    · rcases hv with hv | hv
      · subst hv
        refine .inr fun w hw hn => ?_
        rw [hgd] at hw
        obtain ⟨t, ht⟩ := List.getElem?_of_mem hw
        exact j6 t w ht (List.getElem?_eq_some_iff.1 ht).1 hn
      · exact .inl hv

theorem rc_c (i : Nat) (op : List Int) (hop : OpOK E from_ but op) (hopl : op.length ≤ 1000) (U : Nat) (hU : U ≤ 1000) (met : List Bool)
    (g1 : RI E.length E from_ but met (fun v => (v : Int) ∈ op)) (g2 : ∀ x, x ∈ from_ → x ≠ but → Mt met x.toNat) (g4 : unmet met ≤ U) :
    ∃ met' nx', RI E.length E from_ but met' (fun v => (v : Int) ∈ nx') ∧ (∀ x, x ∈ from_ → x ≠ but → Mt met' x.toNat) ∧ OpOK E from_ but nx' ∧ nx'.length + unmet met' ≤ U ∧
    lpK 88 Tryz.f88 87 2 h (rcS h E but .junk .junk .junk met none (I (i : Nat)) (I (E.length : Nat)) (I (0 : Nat)) (I (op.length : Nat)) (some op) .junk .junk .junk (some [])) =
      some (.exit 4, rcS h E but .junk .junk .junk met' none (I (i : Nat)) (I (E.length : Nat)) (I (op.length : Nat)) (I (op.length : Nat)) (some op) .junk .junk .junk (some nx')) := by
  have key := loop_rel (P := Tryz.prog) (C := cfg) (sc := runScope Tryz.prog cfg 87 h.length (cfg.live 88) 0) (N := 87) (n0 := h.length) (K := cfg.live 88) (c := loopAt Tryz.f88 2)
    (fun s : Nat × List Bool × List Int => rcS h E but .junk .junk .junk s.2.1 none (I (i : Nat)) (I (E.length : Nat)) (I (s.1 : Nat)) (I (op.length : Nat)) (some op) .junk .junk .junk (some s.2.2))
    (fun s => s.1 ≤ op.length ∧ RI E.length E from_ but s.2.1 (fun v => (v : Int) ∈ op.drop s.1 ∨ (v : Int) ∈ s.2.2) ∧ (∀ x, x ∈ from_ → x ≠ but → Mt s.2.1 x.toNat) ∧ OpOK E from_ but s.2.2 ∧ s.2.2.length + unmet s.2.1 ≤ U) (fun s => op.length - s.1)
    (fun s r => ∃ met' nx', RI E.length E from_ but met' (fun v => (v : Int) ∈ nx') ∧ (∀ x, x ∈ from_ → x ≠ but → Mt met' x.toNat) ∧ OpOK E from_ but nx' ∧ nx'.length + unmet met' ≤ U ∧
      r = (.exit 4, rcS h E but .junk .junk .junk met' none (I (i : Nat)) (I (E.length : Nat)) (I (op.length : Nat)) (I (op.length : Nat)) (some op) .junk .junk .junk (some nx'))) ?_ (0, met, []) ⟨Nat.zero_le _, g1.mono fun v hv => .inl (.inl hv), g2, fun x hx => by simp at hx, by simpa using g4⟩
  · obtain ⟨r, h1, met', nx', h2, h3, h4, h5, rfl⟩ := key
    exact ⟨met', nx', h2, h3, h4, h5, h1⟩
  clear g1 g2 g4 met
  rintro ⟨j, met, nx⟩ ⟨j1, j2, j3, j4, j5⟩
  simp only at j1 j2 j3 j4 j5 ⊢
  rcases Nat.lt_or_ge j op.length with hlt | hge
  · have hltI : ((j : Nat) : Int) < ((op.length : Nat) : Int) := by omega
    obtain ⟨x, hx⟩ : ∃ x, op[j]? = some x := ⟨_, List.getElem?_eq_getElem hlt⟩
    obtain ⟨x0, xl, hrx⟩ := hop x (List.mem_of_getElem? hx)
    have xln : x.toNat < E.length := by omega
    obtain ⟨es, hes⟩ : ∃ es, E[x.toNat]? = some es := ⟨_, List.getElem?_eq_getElem xln⟩
    have hdr : op.drop j = x :: op.drop (j + 1) := by
      rw [List.drop_eq_getElem_cons hlt]; rw [List.getElem?_eq_getElem hlt] at hx; cases hx; rfl
    have hesl := (hEl es (List.mem_of_getElem? hes)).1
    obtain ⟨met', nx', k1, k2, k3, k4, e⟩ := rc_d h E but from_ hE hEl i j op es x.toNat hes hrx (fun v => (v : Int) ∈ op.drop (j + 1)) U hU met nx (j2.mono fun v hv => .inl (by
      rw [hdr] at hv
      rcases hv with hv | hv
      · rcases List.mem_cons.1 hv with hv | hv
        · exact .inl (by omega)
        · exact .inr (.inl hv)
      · exact .inr (.inr hv))) j3 j4 j5
    refine .inl ⟨(j + 1, met', nx'), ?_, ⟨hlt, k1, k2, k3, k4⟩, by simp only; omega, fun r h => h⟩
    have hml := j2.len
    have hml' := k1.len
    simp [rcS, lpK, lv88, Tryz.f88] at e
    simp (disch := (first | omega | simp (disch := omega) [])) [round_eq, rcS, Tryz.f88, lv88, hx, hlt, hltI, x0, xln, hes, e, wrap_i64, -getElem?_pos]
  · have : j = op.length := by omega
    subst this
    refine .inr ⟨(.exit 4, rcS h E but .junk .junk .junk met none (I (i : Nat)) (I (E.length : Nat)) (I (op.length : Nat)) (I (op.length : Nat)) (some op) .junk .junk .junk (some nx)), ?_, nofun, met, nx, j2.mono fun v hv => ?_, j3, j4, j5, rfl⟩
    · simp (disch := (first | omega | simp (disch := omega) [])) [round_eq, rcS, Tryz.f88, lv88, -getElem?_pos]
    · rcases hv with hv | hv
      · simp at hv
      · exact .inl hv

theorem rc_b (op : List Int) (met : List Bool) (g1 : RI E.length E from_ but met (fun v => (v : Int) ∈ op)) (g2 : ∀ x, x ∈ from_ → x ≠ but → Mt met x.toNat) (g3 : OpOK E from_ but op) (g4 : op.length + unmet met ≤ E.length) :
    ∃ met' op' i', met'.length = E.length ∧ (∀ v, Mt met' v ↔ Rch E from_ but v) ∧
    lpK 88 Tryz.f88 87 1 h (rcS h E but .junk .junk .junk met (some op) (I (0 : Nat)) (I (E.length : Nat)) .junk .junk none .junk .junk .junk none) =
      some (.exit 2, rcS h E but .junk .junk .junk met' (some op') (I (i' : Nat)) (I (E.length : Nat)) .junk .junk none .junk .junk .junk none) := by
  have key := loop_rel (P := Tryz.prog) (C := cfg) (sc := runScope Tryz.prog cfg 87 h.length (cfg.live 88) 0) (N := 87) (n0 := h.length) (K := cfg.live 88) (c := loopAt Tryz.f88 1)
    (fun s : Nat × List Bool × List Int => rcS h E but .junk .junk .junk s.2.1 (some s.2.2) (I (s.1 : Nat)) (I (E.length : Nat)) .junk .junk none .junk .junk .junk none)
    (fun s => s.1 ≤ E.length ∧ RI E.length E from_ but s.2.1 (fun v => (v : Int) ∈ s.2.2) ∧ (∀ x, x ∈ from_ → x ≠ but → Mt s.2.1 x.toNat) ∧ OpOK E from_ but s.2.2 ∧ s.2.2.length ≤ E.length ∧ (s.2.2 ≠ [] → unmet s.2.1 + s.1 + 1 ≤ E.length)) (fun s => E.length - s.1)
    (fun s r => ∃ met' op' i', met'.length = E.length ∧ (∀ v, Mt met' v ↔ Rch E from_ but v) ∧ r = (.exit 2, rcS h E but .junk .junk .junk met' (some op') (I (i' : Nat)) (I (E.length : Nat)) .junk .junk none .junk .junk .junk none)) ?_ (0, met, op)
    ⟨Nat.zero_le _, g1, g2, g3, by show op.length ≤ _; omega, fun hne => by
      have : 0 < op.length := List.length_pos_iff.2 hne
      show unmet met + 0 + 1 ≤ _
      omega⟩
  · obtain ⟨r, h1, met', op', i', h2, h3, rfl⟩ := key
    exact ⟨met', op', i', h2, h3, h1⟩
  clear g1 g2 g3 g4 met op
  rintro ⟨i, met, op⟩ ⟨j1, j2, j3, j4, j5, j6⟩
  simp only at j1 j2 j3 j4 j5 j6 ⊢
  have hml := j2.len
  have done_ : op = [] → ∀ v, Mt met v ↔ Rch E from_ but v := fun e => RI.all (j2.mono fun v hv => by rw [e] at hv; simp at hv) j3
  rcases Nat.lt_or_ge i E.length with hlt | hge
  · have hltI : ((i : Nat) : Int) < ((E.length : Nat) : Int) := by omega
    by_cases ho : op = []
    · refine .inr ⟨(.exit 2, rcS h E but .junk .junk .junk met (some op) (I (i : Nat)) (I (E.length : Nat)) .junk .junk none .junk .junk .junk none), ?_, nofun, met, op, i, hml, done_ ho, rfl⟩
      subst ho
      simp (disch := (first | omega | simp (disch := omega) [])) [round_eq, rcS, Tryz.f88, lv88, hlt, hltI, -getElem?_pos]
    · have hop := List.length_pos_iff.2 ho
      have h6 := j6 ho
      obtain ⟨met', nx', k1, k2, k3, k4, e⟩ := rc_c h E but from_ hE hEl i op j4 (by omega) (unmet met) (by omega) met j2 j3 (Nat.le_refl _)
      refine .inl ⟨(i + 1, met', nx'), ?_, ⟨hlt, k1, k2, k3, by simp only; omega, fun hne => by have := List.length_pos_iff.2 hne; simp only; simp only at this; omega⟩, by simp only; omega, fun r h => h⟩
      have hml' := k1.len
      have ho0 : ¬ op.length = 0 := by omega
      have hoI : (((op.length : Nat) : Int) == 0) = false := by simp; omega
      simp [rcS, lpK, lv88, Tryz.f88] at e
      simp (disch := (first | omega | simp (disch := omega) [])) [round_eq, rcS, Tryz.f88, lv88, hlt, hltI, ho, ho0, hoI, e, wrap_i64, -getElem?_pos]
  · have hi : i = E.length := by omega
    have ho : op = [] := by
      by_cases ho : op = []
      · exact ho
      · have := j6 ho; omega
    subst hi
    refine .inr ⟨(.exit 2, rcS h E but .junk .junk .junk met (some op) (I (E.length : Nat)) (I (E.length : Nat)) .junk .junk none .junk .junk .junk none), ?_, nofun, met, op, E.length, hml, done_ ho, rfl⟩
    simp (disch := (first | omega | simp (disch := omega) [])) [round_eq, rcS, Tryz.f88, lv88, -getElem?_pos]
end

theorem reached (h : Heap) (k : Nat) (E : List (List Int)) (but : Int) (from_ : List Int) (hr : rowAt h k from_.length = some (1, intsOf from_)) (hfl : from_.length ≤ 100000) (hE : E.length ≤ 1000) (hlow : ∀ x, x ∈ from_ → 0 ≤ x ∧ x < E.length) (hEl : ∀ l, l ∈ E → l.length ≤ 100000 ∧ ∀ x, x ∈ l → 0 ≤ x ∧ x < E.length) :
    ∃ met : List Bool, met.length = E.length ∧ (∀ v, Mt met v ↔ Rch E from_ but v) ∧ CX 88 [Sl (listsOf E), .one (.sl k 1 from_.length 0 from_.length), I but] h = some (Sl (boolsOf met), h, []) := by
  have hk : k < h.length := (List.getElem?_eq_some_iff.1 (rowAt_some hr).1).1
  obtain ⟨met1, op1, a1, a2, a3, a4, e1⟩ := rc_a h k hk E but from_ hr hfl hE hlow _ rfl
  obtain ⟨met2, op2, i2, b1, b2, e2⟩ := rc_b h E but from_ hE hEl op1 met1 a1 a2 a3 a4
  have hnk : ¬ h.length ≤ k := by omega
  refine ⟨met2, b1, b2, ?_⟩
  refine CI_of Tryz.func88 rfl 0 ?_
  have hkp : cfg.keep 88 = 0 := rfl
  have hz : List.replicate E.length [Leaf.bool false] = boolsOf (List.replicate E.length false) := by simp [boolsOf]
  have hl1 := a1.len
  simp [rcS, lpK, lv88, Tryz.f88, hl1, b1] at e1 e2
  simp (disch := (first | omega | simp (disch := omega) [])) [Tryz.f88, lv88, hkp, hnk, hz, e1, e2, b1, hl1, row_lo hk, room_of, wrap_i64, -getElem?_pos]
end Go.Proofs.YtdkknhpdjcdmfaaGreat.Abs

/- The loops of a function, as the chapter tells them. -/
set_option linter.unusedSimpArgs false
set_option linter.unusedVariables false
set_option linter.unusedSectionVars false
namespace Go.Proofs.YtdkknhpdjcdmfaaGreat.Abs
open Go Go.RowKit Go.Proofs

theorem bkN_mem {ss : List (List Int)} {hd : Nat} {e : Int} : ∀ i, e ∈ bkN ss hd i ↔ ∃ k : Nat, e = (k : Int) ∧ k < i ∧ (hd : Int) ∈ ss.getD k [] ∧ AhP ss hd k
  | 0 => by simp [bkN]
  | i + 1 => by
    rw [bkN]
    split
    · rename_i h
      rw [List.mem_append, bkN_mem i, List.mem_singleton]
      constructor
      · rintro (⟨k, h1, h2, h3⟩ | h1)
        · exact ⟨k, h1, by omega, h3⟩
        · exact ⟨i, h1, by omega, h.1, ahB_nat.1 h.2⟩
      · rintro ⟨k, h1, h2, h3⟩
        rcases Nat.lt_or_ge k i with hk | hk
        · exact .inl ⟨k, h1, hk, h3⟩
        · obtain rfl : k = i := by omega
          exact .inr h1
    · rename_i h
      rw [bkN_mem i]
      constructor
      · rintro ⟨k, h1, h2, h3⟩
        exact ⟨k, h1, by omega, h3⟩
      · rintro ⟨k, h1, h2, h3⟩
        refine ⟨k, h1, ?_, h3⟩
        apply Classical.byContradiction
        intro hk
        obtain rfl : k = i := by omega
        exact h ⟨h3.1, ahB_nat.2 h3.2⟩
theorem bkN_len (ss : List (List Int)) (hd : Nat) : ∀ i, (bkN ss hd i).length ≤ i
  | 0 => by simp [bkN]
  | i + 1 => by
    have := bkN_len ss hd i
    rw [bkN]
    split <;> simp <;> omega

def InP (ss : List (List Int)) (hd k : Nat) : Prop := Rch (predsF ss) (bkN ss hd ss.length) (hd : Int) k ∨ (k : Int) = (hd : Int)
noncomputable def inB (ss : List (List Int)) (hd k : Nat) : Bool := @decide (InP ss hd k) (Classical.propDecidable _)
theorem inB_iff {ss : List (List Int)} {hd k : Nat} : inB ss hd k = true ↔ InP ss hd k := by
  unfold inB; exact @decide_eq_true_iff _ (Classical.propDecidable _)
noncomputable def blkR (ss : List (List Int)) (hd : Nat) (n : Nat) : List Int := ((List.range n).filter (inB ss hd)).map fun j => ((j : Nat) : Int)
theorem blkR_next (ss : List (List Int)) (hd k : Nat) : blkR ss hd (k + 1) = if inB ss hd k = true then blkR ss hd k ++ [(k : Int)] else blkR ss hd k := by
  unfold blkR
  rw [List.range_succ, List.filter_append, List.map_append]
  cases hc : inB ss hd k with
  | true => rw [List.filter_cons_of_pos hc, List.filter_nil, if_pos rfl]; rfl
  | false => rw [List.filter_cons_of_neg (by rw [hc]; simp), List.filter_nil, if_neg (by simp)]; simp
theorem blkR_len (ss : List (List Int)) (hd n : Nat) : (blkR ss hd n).length ≤ n := by
  unfold blkR
  rw [List.length_map]
  have := List.length_filter_le (inB ss hd) (List.range n)
  simpa using this
theorem blkR_mem {ss : List (List Int)} {hd n k : Nat} : (k : Int) ∈ blkR ss hd n ↔ k < n ∧ InP ss hd k := by
  unfold blkR
  constructor
  · intro h
    obtain ⟨j, hj, e⟩ := List.mem_map.1 h
    obtain ⟨h1, h2⟩ := List.mem_filter.1 hj
    obtain rfl : j = k := by omega
    exact ⟨by simpa using h1, inB_iff.1 h2⟩
  · rintro ⟨h1, h2⟩
    exact List.mem_map.2 ⟨k, List.mem_filter.2 ⟨by simpa using h1, inB_iff.2 h2⟩, rfl⟩

noncomputable def lpF (ss : List (List Int)) (i : Nat) : Lp := ⟨(i : Int), blkR ss i ss.length, bkN ss i ss.length, -1⟩
noncomputable def lpsN (ss : List (List Int)) : Nat → List Lp
  | 0 => []
  | i + 1 => if bkN ss i ss.length = [] then lpsN ss i else lpsN ss i ++ [lpF ss i]

structure LsOK (ss : List (List Int)) (i : Nat) (ls : List Lp) : Prop where
  len : ls.length ≤ i
  each : ∀ x, x ∈ ls → LpOK ss x ∧ x.blocks.length ≤ 1000 ∧ x.head < i
  rise : ls.Pairwise fun x y => x.head < y.head
theorem LsOK.step {ss : List (List Int)} {i : Nat} {ls : List Lp} (h : LsOK ss i ls) : LsOK ss (i + 1) ls :=
  ⟨by have := h.len; omega, fun x hx => by obtain ⟨h1, h2, h3⟩ := h.each x hx; exact ⟨h1, h2, by omega⟩, h.rise⟩
theorem LsOK.snoc {ss : List (List Int)} {i : Nat} {ls : List Lp} (h : LsOK ss i ls) {x : Lp} (hx : LpOK ss x) (hb : x.blocks.length ≤ 1000) (hh : x.head = (i : Int)) : LsOK ss (i + 1) (ls ++ [x]) := by
  refine ⟨by have := h.len; simp; omega, fun y hy => ?_, List.pairwise_append.2 ⟨h.rise, by simp, fun y hy z hz => ?_⟩⟩
  · rcases List.mem_append.1 hy with hy | hy
    · obtain ⟨h1, h2, h3⟩ := h.each y hy; exact ⟨h1, h2, by omega⟩
    · rw [List.mem_singleton.1 hy]; exact ⟨hx, hb, by omega⟩
  · rw [List.mem_singleton.1 hz, hh]
    exact (h.each y hy).2.2
section
variable {ss : List (List Int)} (hs : Edges ss)
include hs
theorem lpF_ok {i : Nat} (hi : i < ss.length) : LpOK ss (lpF ss i) := by
  refine ⟨⟨by show (0 : Int) ≤ (i : Int); omega, by show (i : Int) < _; omega⟩, fun k => blkR_mem, fun k hk => ?_, fun e he => ?_⟩
  · obtain ⟨j, _, e⟩ := List.mem_map.1 hk
    omega
  · obtain ⟨k, rfl, h2, h3, h4, h5, h6⟩ := (bkN_mem _).1 he
    show _ ∧ _ ∧ _ ∧ Rch ss [0] (-1) ((i : Int)).toNat ∧ ¬ Rch ss [0] (i : Int) _
    rw [Int.toNat_natCast, Int.toNat_natCast]
    refine ⟨by omega, by omega, h5, h4, fun h => ?_⟩
    rcases h6 with h6 | h6
    · subst h6
      exact h.not_but rfl
    · exact h6 h
theorem lpsN_ok (hn : ss.length ≤ 1000) : ∀ i, i ≤ ss.length → LsOK ss i (lpsN ss i)
  | 0, _ => ⟨by simp [lpsN], by simp [lpsN], by simp [lpsN]⟩
  | i + 1, hi => by
    have ih := lpsN_ok hn i (by omega)
    rw [lpsN]
    split
    · exact ih.step
    · refine ih.snoc (lpF_ok hs (by omega)) ?_ rfl
      have := blkR_len ss i ss.length
      show (blkR ss i ss.length).length ≤ 1000
      omega
end

/-! The smallest other loop that holds a loop's head. -/
def coreOf (ls : List Lp) : List (Int × List Int) := ls.map fun x => (x.head, x.blocks)
def wiStep (cs : List (Int × List Int)) (i : Nat) (best : Int) (k : Nat) : Int :=
  match cs[i]?, cs[k]? with
  | some y, some x => if k = i ∨ x.2.contains y.1 = false ∨ x.2.length ≤ y.2.length then best
      else if best < 0 then (k : Int) else match cs[best.toNat]? with
        | some z => if x.2.length < z.2.length then (k : Int) else best
        | none => best
  | _, _ => best
def wiN (cs : List (Int × List Int)) (i : Nat) : Nat → Int
  | 0 => -1
  | k + 1 => wiStep cs i (wiN cs i k) k
theorem wiN_low (cs : List (Int × List Int)) (i : Nat) : ∀ k, k ≤ cs.length → wiN cs i k < 0 ∨ (wiN cs i k).toNat < cs.length
  | 0, _ => .inl (by simp [wiN])
  | k + 1, hk => by
    have ih := wiN_low cs i k (by omega)
    rw [wiN]
    unfold wiStep
    split
    · split
      · exact ih
      · split
        · right; omega
        · split
          · split
            · right; omega
            · exact ih
          · exact ih
    · exact ih
def finF (ls : List Lp) : List Lp := ls.mapIdx fun k x => ⟨x.head, x.blocks, x.backs, wiN (coreOf ls) k ls.length⟩
@[simp] theorem finF_length (ls : List Lp) : (finF ls).length = ls.length := by simp [finF]
theorem finF_get (ls : List Lp) (k : Nat) : (finF ls)[k]? = (ls[k]?).map fun x => ⟨x.head, x.blocks, x.backs, wiN (coreOf ls) k ls.length⟩ := by
  unfold finF; rw [List.getElem?_mapIdx]
theorem finF_ok {ss : List (List Int)} {n : Nat} {ls : List Lp} (h : LsOK ss n ls) : LsOK ss n (finF ls) := by
  refine ⟨by simpa using h.len, fun y hy => ?_, ?_⟩
  · obtain ⟨k, hk⟩ := List.getElem?_of_mem hy
    rw [finF_get] at hk
    obtain ⟨x, hx, rfl⟩ := Option.map_eq_some_iff.1 hk
    obtain ⟨⟨a1, a2, a3, a4⟩, b, c⟩ := h.each x (List.mem_of_getElem? hx)
    exact ⟨⟨a1, a2, a3, a4⟩, b, c⟩
  · have h2 : (ls.map fun x => x.head).Pairwise fun a b => a < b := List.pairwise_map.2 h.rise
    have h3 : (finF ls).map (fun x => x.head) = ls.map fun x => x.head := by
      apply List.ext_getElem?
      intro k
      rw [List.getElem?_map, List.getElem?_map, finF_get]
      cases ls[k]? <;> rfl
    rw [← h3] at h2
    exact List.pairwise_map.1 h2
def midF (ls : List Lp) (m : Nat) : List Lp := ls.mapIdx fun k x => if k < m then ⟨x.head, x.blocks, x.backs, wiN (coreOf ls) k ls.length⟩ else x
@[simp] theorem midF_length (ls : List Lp) (m : Nat) : (midF ls m).length = ls.length := by simp [midF]
theorem midF_get (ls : List Lp) (m k : Nat) : (midF ls m)[k]? = (ls[k]?).map fun x => if k < m then ⟨x.head, x.blocks, x.backs, wiN (coreOf ls) k ls.length⟩ else x := by
  unfold midF; rw [List.getElem?_mapIdx]
theorem midF_zero (ls : List Lp) : midF ls 0 = ls := by
  apply List.ext_getElem?
  intro k
  rw [midF_get]
  cases ls[k]? <;> simp
theorem midF_all (ls : List Lp) : midF ls ls.length = finF ls := by
  apply List.ext_getElem?
  intro k
  rw [midF_get, finF_get]
  cases h : ls[k]? with
  | none => rfl
  | some x => simp [(List.getElem?_eq_some_iff.1 h).1]
theorem midF_core (ls : List Lp) (m : Nat) : coreOf (midF ls m) = coreOf ls := by
  apply List.ext_getElem?
  intro k
  unfold coreOf
  rw [List.getElem?_map, List.getElem?_map, midF_get]
  cases ls[k]? with
  | none => rfl
  | some x => simp; split <;> simp
theorem midF_next {ls : List Lp} {m : Nat} {x : Lp} (hx : ls[m]? = some x) : (midF ls m).set m ⟨x.head, x.blocks, x.backs, wiN (coreOf ls) m ls.length⟩ = midF ls (m + 1) := by
  apply List.ext_getElem?
  intro k
  rw [List.getElem?_set, midF_get, midF_get, midF_length]
  have hl := (List.getElem?_eq_some_iff.1 hx).1
  by_cases e : m = k
  · subst e
    rw [if_pos rfl, if_pos hl, hx]
    simp
  · rw [if_neg e]
    cases ls[k]? with
    | none => rfl
    | some y =>
      have : (k < m) = (k < m + 1) := by
        apply propext
        omega
      simp only [Option.map_some, this]
end Go.Proofs.YtdkknhpdjcdmfaaGreat.Abs
