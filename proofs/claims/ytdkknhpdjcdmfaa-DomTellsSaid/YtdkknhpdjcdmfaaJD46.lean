/- YtdkknhpdjcdmfaaJD46: texts that follow each other, as one. -/
import Derived.Test.YtdkknhpdjcdmfaaJD44
import Derived.Test.YtdkknhpdjcdmfaaJD45
/- The order of a walk: all that it meets, each behind one from which it is gone to; what dom.Of needs of it. -/
set_option linter.unusedSimpArgs false
set_option linter.unusedVariables false
namespace Go.Proofs.Ytdkknhpdjcdmfaa.Abs
open Go Go.RowKit Go.Proofs

def Par (ss : List (List Int)) (T : Int → Prop) : List Int → Prop
  | [] => True
  | x :: b => (T x ∨ ∃ p, p ∈ b ∧ x ∈ ss.getD p.toNat []) ∧ Par ss T b
section
variable {ss : List (List Int)} {T U : Int → Prop}
theorem Par.app : ∀ {a b : List Int}, Par ss T a → Par ss T b → Par ss T (a ++ b)
  | [], b, _, h => h
  | x :: a, b, h, g => by
    refine ⟨?_, Par.app h.2 g⟩
    rcases h.1 with h1 | ⟨p, hp, hx⟩
    · exact .inl h1
    · exact .inr ⟨p, by simp [hp], hx⟩
theorem Par.mono (hm : ∀ x, T x → U x) : ∀ {a : List Int}, Par ss T a → Par ss U a
  | [], _ => trivial
  | x :: a, h => ⟨h.1.imp (hm x) id, Par.mono hm h.2⟩
theorem Par.last {v : Int} : ∀ {a : List Int}, Par ss (fun x => x ∈ ss.getD v.toNat []) a → Par ss (fun x => x = v) (a ++ [v])
  | [], _ => ⟨.inl rfl, trivial⟩
  | x :: a, h => by
    refine ⟨?_, Par.last h.2⟩
    rcases h.1 with h1 | ⟨p, hp, hx⟩
    · exact .inr ⟨v, by simp, h1⟩
    · exact .inr ⟨p, by simp [hp], hx⟩
theorem Par.at_ {x : Int} {b : List Int} : ∀ {a : List Int}, Par ss T (a ++ x :: b) → T x ∨ ∃ p, p ∈ b ∧ x ∈ ss.getD p.toNat []
  | [], h => h.1
  | _ :: a, h => Par.at_ h.2
end

structure Wk (ss : List (List Int)) (T : Int → Prop) (s r : List Bool × List Int) (new : List Int) : Prop where
  len : r.1.length = s.1.length
  post : r.2 = s.2 ++ new
  nodup : new.Nodup
  met : ∀ w : Nat, r.1[w]? = some true ↔ s.1[w]? = some true ∨ (w : Int) ∈ new
  fresh : ∀ x, x ∈ new → 0 ≤ x ∧ s.1[x.toNat]? = some false
  par : Par ss T new
  clo : ∀ x, x ∈ new → ∀ w, w ∈ ss.getD x.toNat [] → r.1[w.toNat]? = some true
theorem Wk.refl (ss : List (List Int)) (T : Int → Prop) (s : List Bool × List Int) : Wk ss T s s [] :=
  ⟨rfl, by simp, List.nodup_nil, fun w => by simp, by simp, trivial, by simp⟩
theorem Wk.trans {ss : List (List Int)} {T : Int → Prop} {s r t : List Bool × List Int} {a b : List Int} (h : Wk ss T s r a) (g : Wk ss T r t b) : Wk ss T s t (a ++ b) := by
  refine ⟨g.len.trans h.len, by rw [g.post, h.post, List.append_assoc], ?_, fun w => ?_, fun x hx => ?_, h.par.app g.par, fun x hx w hw => ?_⟩
  · refine List.nodup_append.2 ⟨h.nodup, g.nodup, fun x hx y hy e => ?_⟩
    subst e
    obtain ⟨x0, xf⟩ := g.fresh x hy
    have := (h.met x.toNat).2 (.inr (by rw [Int.toNat_of_nonneg x0]; exact hx))
    rw [this] at xf
    cases xf
  · rw [g.met, h.met, List.mem_append, or_assoc]
  · rcases List.mem_append.1 hx with hx | hx
    · exact h.fresh x hx
    · obtain ⟨x0, xf⟩ := g.fresh x hx
      refine ⟨x0, ?_⟩
      have hl := (List.getElem?_eq_some_iff.1 xf).1
      have hl2 := h.len
      cases hb : s.1[x.toNat]? with
      | none =>
        have := List.getElem?_eq_none_iff.1 hb
        omega
      | some c =>
        cases c with
        | false => rfl
        | true =>
          have := (h.met x.toNat).2 (.inl hb)
          rw [this] at xf
          cases xf
  · rcases List.mem_append.1 hx with hx | hx
    · exact (g.met _).2 (.inl (h.clo x hx w hw))
    · exact g.clo x hx w hw
theorem Wk.mono {ss : List (List Int)} {T U : Int → Prop} {s r : List Bool × List Int} {a : List Int} (hm : ∀ x, T x → U x) (h : Wk ss T s r a) : Wk ss U s r a :=
  ⟨h.len, h.post, h.nodup, h.met, h.fresh, h.par.mono hm, h.clo⟩

theorem edges_at {ss : List (List Int)} (hs : Edges ss) (v : Nat) : ∀ b, b ∈ ss.getD v [] → 0 ≤ b ∧ b < ss.length := by
  intro b hb
  rw [List.getD] at hb
  cases he : ss[v]? with
  | none => rw [he] at hb; simp at hb
  | some l => rw [he] at hb; exact (hs.each l (List.mem_of_getElem? he)).2 b hb

theorem visitF_wk (ss : List (List Int)) (hs : Edges ss) : ∀ (m v : Nat) (s : List Bool × List Int), s.1.length = ss.length → s.1[v]? = some false → unmet s.1 ≤ m → ∃ a, Wk ss (fun x => x = (v : Int)) s (visitF ss m v s) (a ++ [(v : Int)])
  | 0, v, s, hl, hv, hu => by
    have := unmet_set hv
    omega
  | m + 1, v, s, hl, hv, hu => by
    have fold : ∀ (bs : List Int) (s : List Bool × List Int), s.1.length = ss.length → unmet s.1 ≤ m → (∀ b, b ∈ bs → 0 ≤ b ∧ b < ss.length) →
        ∃ a, Wk ss (fun x => x ∈ bs) s (bs.foldl (fun s b => if s.1.getD b.toNat false then s else visitF ss m b.toNat s) s) a ∧ ∀ b, b ∈ bs → (bs.foldl (fun s b => if s.1.getD b.toNat false then s else visitF ss m b.toNat s) s).1[b.toNat]? = some true := by
      intro bs
      induction bs with
      | nil => intro s _ _ _; exact ⟨[], .refl ss _ s, by simp⟩
      | cons b bs ih =>
        intro s hl hu hb
        rw [List.foldl_cons]
        have h0 := hb b (by simp)
        have hlt : b.toNat < s.1.length := by omega
        have h1 : ∃ a, Wk ss (fun x => x ∈ b :: bs) s (if s.1.getD b.toNat false then s else visitF ss m b.toNat s) a ∧ (if s.1.getD b.toNat false then s else visitF ss m b.toNat s).1[b.toNat]? = some true := by
          split
          · rename_i hn
            refine ⟨[], .refl ss _ s, ?_⟩
            rw [List.getD, List.getElem?_eq_getElem hlt] at hn
            rw [List.getElem?_eq_getElem hlt]
            simpa using hn
          · rename_i hn
            have hf : s.1[b.toNat]? = some false := by
              rw [List.getElem?_eq_getElem hlt]
              rw [List.getD, List.getElem?_eq_getElem hlt] at hn
              simpa using hn
            obtain ⟨a, ha⟩ := visitF_wk ss hs m b.toNat s hl hf hu
            refine ⟨_, ha.mono fun x hx => ?_, (ha.met _).2 (.inr (by simp))⟩
            rw [hx, Int.toNat_of_nonneg h0.1]
            simp
        obtain ⟨a, ha, hb1⟩ := h1
        have hu' : unmet (if s.1.getD b.toNat false then s else visitF ss m b.toNat s).1 ≤ m := by
          split
          · exact hu
          · rename_i hn
            have hf : s.1[b.toNat]? = some false := by
              rw [List.getElem?_eq_getElem hlt]
              rw [List.getD, List.getElem?_eq_getElem hlt] at hn
              simpa using hn
            have := (visitF_inv ss hs m b.toNat s hl hf).un
            omega
        obtain ⟨a', ha', hb'⟩ := ih _ (ha.len.trans hl) hu' (fun x hx => hb x (by simp [hx]))
        refine ⟨a ++ a', ha.trans (ha'.mono fun x hx => by simp [hx]), fun x hx => ?_⟩
        rcases List.mem_cons.1 hx with rfl | hx
        · exact (ha'.met _).2 (.inl hb1)
        · exact hb' x hx
    have h2 := unmet_set hv
    have hvl := (List.getElem?_eq_some_iff.1 hv).1
    have hbs := edges_at hs v
    obtain ⟨a, ha, hb⟩ := fold (ss.getD v []) (s.1.set v true, s.2) (by simpa using hl) (by simp only; omega) hbs
    have hset : ∀ w : Nat, (s.1.set v true)[w]? = some true ↔ s.1[w]? = some true ∨ w = v := by
      intro w
      rw [List.getElem?_set]
      by_cases e : w = v
      · subst e; simp [hvl]
      · rw [if_neg (fun h => e h.symm)]; simp [e]
    have hsf : ∀ w : Nat, (s.1.set v true)[w]? = some false → s.1[w]? = some false ∧ w ≠ v := by
      intro w h
      rw [List.getElem?_set] at h
      by_cases e : w = v
      · subst e; simp [hvl] at h
      · rw [if_neg (fun h => e h.symm)] at h; exact ⟨h, e⟩
    refine ⟨a, ?_, ?_, ?_, fun w => ?_, fun x hx => ?_, ?_, fun x hx w hw => ?_⟩
    · have := ha.len
      simp only [visitF]
      simpa using this
    · have := ha.post
      simp only [visitF]
      rw [this]
      simp
    · refine List.nodup_append.2 ⟨ha.nodup, by simp, fun x hx y hy e => ?_⟩
      have hy' : y = (v : Int) := by simpa using hy
      subst hy'
      obtain ⟨_, xf⟩ := ha.fresh x hx
      have := (hsf _ xf).2
      rw [e] at this
      simp at this
    · have := ha.met w
      simp only [visitF]
      rw [this, hset, List.mem_append]
      simp only [List.mem_singleton]
      constructor
      · rintro ((h | h) | h)
        · exact .inl h
        · exact .inr (.inr (by omega))
        · exact .inr (.inl h)
      · rintro (h | h | h)
        · exact .inl (.inl h)
        · exact .inr h
        · exact .inl (.inr (by omega))
    · rcases List.mem_append.1 hx with hx | hx
      · obtain ⟨x0, xf⟩ := ha.fresh x hx
        exact ⟨x0, (hsf _ xf).1⟩
      · have hx' : x = (v : Int) := by simpa using hx
        subst hx'
        exact ⟨by omega, by rw [Int.toNat_natCast]; exact hv⟩
    · have := ha.par
      exact Par.last (v := (v : Int)) (by rw [Int.toNat_natCast]; exact this)
    · have hm := fun (w : Nat) => ha.met w
      simp only [visitF]
      rcases List.mem_append.1 hx with hx | hx
      · exact ha.clo x hx w hw
      · have hx' : x = (v : Int) := by simpa using hx
        subst hx'
        rw [Int.toNat_natCast] at hw
        exact hb w hw

structure Ord (ss : List (List Int)) (ord : List Int) : Prop where
  nodup : ord.Nodup
  first : ord[0]? = some 0
  low : ∀ k, k ∈ ord → 0 ≤ k ∧ k < ss.length
  from_ : ∀ (i : Nat) x, ord[i]? = some x → x ≠ 0 → ∃ (j : Nat) (p : Int), j < i ∧ ord[j]? = some p ∧ x ∈ ss.getD p.toNat []
  clo : ∀ x, x ∈ ord → ∀ w, w ∈ ss.getD x.toNat [] → w ∈ ord
  max : ord.length ≤ ss.length
theorem order_law {ss : List (List Int)} (hs : Edges ss) (hn : 0 < ss.length) : Ord ss (orderF ss) := by
  have hv0 : (List.replicate ss.length false)[0]? = some false := by rw [List.getElem?_replicate, if_pos hn]
  obtain ⟨a, W⟩ := visitF_wk ss hs ss.length 0 (List.replicate ss.length false, []) (by simp) hv0 (by simp [unmet_all])
  have hp := W.post
  simp only [List.nil_append] at hp
  have hord : orderF ss = (a ++ [((0 : Nat) : Int)]).reverse := by unfold orderF; rw [hp]
  have hmet : ∀ w : Nat, (visitF ss ss.length 0 (List.replicate ss.length false, [])).1[w]? = some true ↔ (w : Int) ∈ a ++ [((0 : Nat) : Int)] := by
    intro w
    rw [W.met]
    constructor
    · rintro (h | h)
      · simp only [List.getElem?_replicate] at h
        split at h <;> simp at h
      · exact h
    · exact .inr
  refine ⟨?_, ?_, orderF_low hs hn, fun i x hx hx0 => ?_, fun x hx w hw => ?_, orderF_len hs hn⟩
  · rw [hord]; exact List.pairwise_reverse.2 (W.nodup.imp fun h => Ne.symm h)
  · rw [hord]; simp
  · have hil := (List.getElem?_eq_some_iff.1 hx).1
    have hxe := (List.getElem?_eq_some_iff.1 hx).2
    have hsplit : orderF ss = (orderF ss).take i ++ x :: (orderF ss).drop (i + 1) := by
      rw [← hxe, ← List.drop_eq_getElem_cons hil, List.take_append_drop]
    have hrev : a ++ [((0 : Nat) : Int)] = ((orderF ss).drop (i + 1)).reverse ++ x :: ((orderF ss).take i).reverse := by
      have h1 : a ++ [((0 : Nat) : Int)] = (orderF ss).reverse := by rw [hord, List.reverse_reverse]
      rw [h1]
      conv => lhs; rw [hsplit]
      simp
    have hpar := W.par
    rw [hrev] at hpar
    rcases hpar.at_ with h | ⟨p, hp1, hp2⟩
    · exact absurd h (by simpa using hx0)
    · rw [List.mem_reverse] at hp1
      obtain ⟨j, hj⟩ := List.getElem?_of_mem hp1
      have hjl := (List.getElem?_eq_some_iff.1 hj).1
      rw [List.length_take] at hjl
      refine ⟨j, p, by omega, ?_, hp2⟩
      rw [List.getElem?_take] at hj
      split at hj
      · exact hj
      · cases hj
  · rw [hord, List.mem_reverse] at hx ⊢
    have := W.clo x hx w hw
    rw [hmet] at this
    have h0 := (edges_at hs _ w hw).1
    rwa [Int.toNat_of_nonneg h0] at this

/-! Places. -/
theorem placeG_keep {v : Nat} : ∀ (ks : List Int) (i : Nat) (ys : List Int), (∀ k, k ∈ ks → k.toNat ≠ v) → (placeG i ks ys)[v]? = ys[v]?
  | [], _, _, _ => rfl
  | k :: ks, i, ys, h => by
    rw [placeG, placeG_keep ks _ _ (fun x hx => h x (by simp [hx])), List.getElem?_set_ne (h k (by simp))]
theorem placeG_at : ∀ (ks : List Int) (i : Nat) (ys : List Int), ks.Nodup → (∀ k, k ∈ ks → 0 ≤ k ∧ k < ys.length) → ∀ (j : Nat) (k : Int), ks[j]? = some k → (placeG i ks ys)[k.toNat]? = some ((i + j : Nat) : Int)
  | [], _, _, _, _, j, k, h => by simp at h
  | k' :: ks, i, ys, hn, hb, j, k, h => by
    rw [placeG]
    have hn' := List.nodup_cons.1 hn
    cases j with
    | zero =>
      simp only [List.getElem?_cons_zero, Option.some.injEq] at h
      subst h
      have h0 := hb k' (by simp)
      rw [placeG_keep ks _ _ (fun x hx e => hn'.1 (by
        have hx0 := (hb x (by simp [hx])).1
        have : x = k' := by omega
        exact this ▸ hx))]
      rw [List.getElem?_set, if_pos rfl, if_pos (by omega)]
      rfl
    | succ j =>
      simp only [List.getElem?_cons_succ] at h
      rw [placeG_at ks (i + 1) _ hn'.2 (fun x hx => by rw [List.length_set]; exact hb x (by simp [hx])) j k h]
      congr 2
      omega
def plF (n : Nat) (ord : List Int) (v : Nat) : Nat := ((placesF n ord).getD v (-1)).toNat
theorem places_at {ss : List (List Int)} {ord : List Int} (O : Ord ss ord) {i : Nat} {k : Int} (h : ord[i]? = some k) : (placesF ss.length ord)[k.toNat]? = some (i : Int) := by
  have := placeG_at ord 0 (List.replicate ss.length (-1)) O.nodup (fun k hk => by rw [List.length_replicate]; exact O.low k hk) i k h
  rw [Nat.zero_add] at this
  exact this
theorem pl_at {ss : List (List Int)} {ord : List Int} (O : Ord ss ord) {i : Nat} {k : Int} (h : ord[i]? = some k) : plF ss.length ord k.toNat = i := by
  unfold plF
  rw [List.getD, places_at O h]
  simp

/-! From where a block is gone to. -/
theorem addP_mem {k : Nat} {rows : List (List Int)} {b : Int} (hb : 0 ≤ b) {v : Nat} (hv : v < rows.length) {p : Int} : p ∈ (addP k rows b).getD v [] ↔ p ∈ rows.getD v [] ∨ (p = (k : Int) ∧ (v : Int) = b) := by
  unfold addP
  rw [List.getD, List.getElem?_set]
  by_cases e : b.toNat = v
  · subst e
    rw [if_pos rfl, if_pos hv]
    simp only [Option.getD_some, List.mem_append, List.mem_singleton]
    constructor
    · rintro (h | h)
      · exact .inl h
      · exact .inr ⟨h, by omega⟩
    · rintro (h | h)
      · exact .inl h
      · exact .inr h.1
  · rw [if_neg e]
    constructor
    · exact .inl
    · rintro (h | h)
      · exact h
      · omega
theorem foldP_mem {k : Nat} {v : Nat} {p : Int} : ∀ (xs : List Int) (rows : List (List Int)), (∀ b, b ∈ xs → 0 ≤ b) → v < rows.length → (p ∈ (xs.foldl (addP k) rows).getD v [] ↔ p ∈ rows.getD v [] ∨ (p = (k : Int) ∧ (v : Int) ∈ xs))
  | [], rows, _, _ => by simp
  | b :: xs, rows, h, hv => by
    rw [List.foldl_cons, foldP_mem xs _ (fun x hx => h x (by simp [hx])) (by rw [addP_len]; exact hv), addP_mem (h b (by simp)) hv, List.mem_cons]
    constructor
    · rintro ((h | h) | h)
      · exact .inl h
      · exact .inr ⟨h.1, .inl h.2⟩
      · exact .inr ⟨h.1, .inr h.2⟩
    · rintro (h | ⟨h1, h2 | h2⟩)
      · exact .inl (.inl h)
      · exact .inl (.inr ⟨h1, h2⟩)
      · exact .inr ⟨h1, h2⟩
theorem predsG_mem {v : Nat} {p : Int} : ∀ (k : Nat) (ls rows : List (List Int)), (∀ l, l ∈ ls → ∀ b, b ∈ l → 0 ≤ b) → v < rows.length → (p ∈ (predsG k ls rows).getD v [] ↔ p ∈ rows.getD v [] ∨ ∃ (j : Nat), p = ((k + j : Nat) : Int) ∧ (v : Int) ∈ ls.getD j [])
  | k, [], rows, _, _ => by simp [predsG]
  | k, l :: ls, rows, h, hv => by
    rw [predsG, predsG_mem (k + 1) ls _ (fun x hx => h x (by simp [hx])) (by rw [foldP_len]; exact hv), foldP_mem l rows (h l (by simp)) hv]
    constructor
    · rintro ((h | h) | ⟨j, h1, h2⟩)
      · exact .inl h
      · exact .inr ⟨0, by simpa using h.1, by simpa using h.2⟩
      · exact .inr ⟨j + 1, by rw [h1]; congr 1; omega, by simpa using h2⟩
    · rintro (h | ⟨j, h1, h2⟩)
      · exact .inl (.inl h)
      · cases j with
        | zero => exact .inl (.inr ⟨by simpa using h1, by simpa using h2⟩)
        | succ j => exact .inr ⟨j, by rw [h1]; congr 1; omega, by simpa using h2⟩
theorem preds_mem {ss : List (List Int)} (hs : Edges ss) {v : Nat} (hv : v < ss.length) {p : Int} : p ∈ (predsF ss).getD v [] ↔ 0 ≤ p ∧ (v : Int) ∈ ss.getD p.toNat [] := by
  unfold predsF
  rw [predsG_mem 0 ss _ (fun l hl b hb => ((hs.each l hl).2 b hb).1) (by simpa using hv)]
  constructor
  · rintro (h | ⟨j, h1, h2⟩)
    · rw [List.getD, List.getElem?_replicate] at h
      split at h <;> simp at h
    · rw [Nat.zero_add] at h1
      subst h1
      exact ⟨by omega, by rw [Int.toNat_natCast]; exact h2⟩
  · rintro ⟨h0, h⟩
    exact .inr ⟨p.toNat, by omega, h⟩
theorem pr_iff {ss : List (List Int)} (hs : Edges ss) {p v : Nat} (hv : v < ss.length) : prOf (predsF ss) p v ↔ (v : Int) ∈ ss.getD p [] := by
  unfold prOf
  rw [preds_mem hs hv, Int.toNat_natCast]
  exact ⟨fun h => h.2, fun h => ⟨by omega, h⟩⟩
theorem getD_lt {ss : List (List Int)} {p : Nat} {x : Int} (h : x ∈ ss.getD p []) : p < ss.length := by
  rw [List.getD] at h
  cases he : ss[p]? with
  | none => rw [he] at h; simp at h
  | some l => exact (List.getElem?_eq_some_iff.1 he).1
theorem preds_row {ss : List (List Int)} (hs : Edges ss) {l : List Int} (hl : l ∈ predsF ss) : ∀ p, p ∈ l → 0 ≤ p ∧ p < ss.length := by
  intro p hp
  obtain ⟨v, hv⟩ := List.getElem?_of_mem hl
  have hvl := (List.getElem?_eq_some_iff.1 hv).1
  rw [predsF_len] at hvl
  have h1 : p ∈ (predsF ss).getD v [] := by rw [List.getD, hv]; exact hp
  have h2 := (preds_mem hs hvl).1 h1
  have := getD_lt h2.2
  omega
theorem predsG_low : ∀ (k : Nat) (ls : List (List Int)) {m : Nat} {rows : List (List Int)}, (∀ l, l ∈ ls → l.length ≤ 1000) → Low m rows → Low (m + 1000 * ls.length) (predsG k ls rows)
  | k, [], m, rows, _, h => h
  | k, l :: ls, m, rows, hl, h => by
    rw [predsG]
    have h1 := hl l (by simp)
    have := predsG_low (k + 1) ls (fun x hx => hl x (by simp [hx])) (foldP_low (k := k) l h)
    exact this.mono (by simp only [List.length_cons]; omega)
theorem preds_len {ss : List (List Int)} (hs : Edges ss) : ∀ l, l ∈ predsF ss → l.length ≤ 1000 * ss.length := by
  intro l hl
  have := predsG_low 0 ss (m := 0) (rows := List.replicate ss.length []) (fun l hl => (hs.each l hl).1) (fun l hl => by rw [List.eq_of_mem_replicate hl]; simp) l hl
  omega

theorem dom_in {ss : List (List Int)} (hs : Edges ss) (hn : 0 < ss.length) : DomIn ss.length (fun v => (v : Int) ∈ orderF ss) (plF ss.length (orderF ss)) (orderF ss) (predsF ss) := by
  have O := order_law hs hn
  have hat : ∀ v : Nat, (v : Int) ∈ orderF ss → (orderF ss)[plF ss.length (orderF ss) v]? = some (v : Int) := by
    intro v hv
    obtain ⟨i, hi⟩ := List.getElem?_of_mem hv
    have := pl_at O hi
    rw [Int.toNat_natCast] at this
    rw [this]; exact hi
  have hp0 : plF ss.length (orderF ss) 0 = 0 := pl_at O O.first
  refine ⟨⟨hn, fun v hv => by have := O.low _ hv; omega, List.mem_of_getElem? O.first, hp0, fun v w hv hw e => ?_, fun v hv hv0 => ?_, fun p v h => ?_⟩, predsF_len ss, fun l hl => preds_row hs hl, fun i k hk => ?_, fun v hv => ?_, O.max⟩
  · have h1 := hat v hv
    have h2 := hat w hw
    rw [e, h2] at h1
    injection h1 with h1
    omega
  · obtain ⟨j, p, h1, h2, h3⟩ := O.from_ _ _ (hat v hv) (by omega)
    have hp := O.low p (List.mem_of_getElem? h2)
    have hvn := O.low _ hv
    refine ⟨p.toNat, (pr_iff hs (by omega)).2 h3, ?_, ?_⟩
    · show ((p.toNat : Nat) : Int) ∈ _
      rw [Int.toNat_of_nonneg hp.1]
      exact List.mem_of_getElem? h2
    · rw [pl_at O h2]; exact h1
  · have hv : v < ss.length := by have := getD_lt h; rwa [predsF_len] at this
    exact getD_lt ((pr_iff hs hv).1 h)
  · have h0 := O.low k (List.mem_of_getElem? hk)
    refine ⟨h0.1, ?_, pl_at O hk⟩
    show ((k.toNat : Nat) : Int) ∈ _
    rw [Int.toNat_of_nonneg h0.1]
    exact List.mem_of_getElem? hk
  · exact (List.getElem?_eq_some_iff.1 (hat v hv)).1
theorem dom_hat {ss : List (List Int)} (hs : Edges ss) (hn : 0 < ss.length) (v : Nat) (hv : (v : Int) ∈ orderF ss) : (placesF ss.length (orderF ss))[v]? = some ((plF ss.length (orderF ss) v : Nat) : Int) := by
  have O := order_law hs hn
  obtain ⟨i, hi⟩ := List.getElem?_of_mem hv
  have h1 := places_at O hi
  have h2 := pl_at O hi
  rw [Int.toNat_natCast] at h1 h2
  rw [h1, h2]
end Go.Proofs.Ytdkknhpdjcdmfaa.Abs

/- Ways: who is reached from some, not by way of one; loops by their heads; what the chapter says of them. -/
set_option linter.unusedSimpArgs false
set_option linter.unusedVariables false
set_option linter.unusedSectionVars false
namespace Go.Proofs.Ytdkknhpdjcdmfaa.Abs
open Go Go.RowKit Go.Proofs

inductive Rch (E : List (List Int)) (from_ : List Int) (but : Int) : Nat → Prop
  | start {v : Nat} (h : (v : Int) ∈ from_) (hb : (v : Int) ≠ but) : Rch E from_ but v
  | step {k w : Nat} (hk : Rch E from_ but k) (hw : (w : Int) ∈ E.getD k []) (hb : (w : Int) ≠ but) : Rch E from_ but w

theorem Rch.not_but {E : List (List Int)} {l : List Int} {but : Int} {v : Nat} (h : Rch E l but v) : (v : Int) ≠ but := by
  cases h with
  | start _ hb => exact hb
  | step _ _ hb => exact hb
theorem Rch.any {E : List (List Int)} {l : List Int} {but : Int} {v : Nat} (h : Rch E l but v) : Rch E l (-1) v := by
  induction h with
  | start h _ => exact .start h (by omega)
  | step _ hw _ ih => exact .step ih hw (by omega)

section
variable {ss : List (List Int)} (hs : Edges ss) (hn : 0 < ss.length)
include hs hn
theorem rch_order {v : Nat} : Rch ss [0] (-1) v ↔ (v : Int) ∈ orderF ss := by
  have O := order_law hs hn
  constructor
  · intro h
    induction h with
    | start h _ =>
      simp only [List.mem_singleton] at h
      rw [h]
      exact List.mem_of_getElem? O.first
    | step _ hw _ ih => exact O.clo _ ih _ (by rw [Int.toNat_natCast]; exact hw)
  · intro h
    obtain ⟨i, hi⟩ := List.getElem?_of_mem h
    have key : ∀ (m i v : Nat), i ≤ m → (orderF ss)[i]? = some (v : Int) → Rch ss [0] (-1) v := by
      intro m
      induction m with
      | zero =>
        intro i v hm hi
        obtain rfl : i = 0 := by omega
        rw [O.first] at hi
        injection hi with hi
        exact .start (by simp; omega) (by omega)
      | succ m ih =>
        intro i v hm hi
        by_cases e : (v : Int) = 0
        · exact .start (by simp; omega) (by omega)
        · obtain ⟨j, p, h1, h2, h3⟩ := O.from_ i _ hi e
          have hp := O.low p (List.mem_of_getElem? h2)
          have hpe : ((p.toNat : Nat) : Int) = p := Int.toNat_of_nonneg hp.1
          exact .step (ih j p.toNat (by omega) (by rw [hpe]; exact h2)) h3 (by omega)
    exact key i i v (Nat.le_refl _) hi

theorem doms_way {pl : Nat → Nat} {up : List Int} (D : Doms ss.length (fun v => (v : Int) ∈ orderF ss) pl (predsF ss) up) {a e : Nat} (ha : Anc up a e) (h : Rch ss [0] (a : Int) e) : False := by
  have key : ∀ v, Rch ss [0] (a : Int) v → Anc up a v → False := by
    intro v h
    induction h with
    | start h hb =>
      simp only [List.mem_singleton] at h
      intro ha
      rename_i v
      obtain rfl : v = 0 := by omega
      cases ha with
      | refl => exact hb rfl
      | step h0 _ _ => exact h0 rfl
    | step hk hw hb ih =>
      rename_i k w
      intro ha
      have hRk := (rch_order hs hn).1 hk.any
      have hRw := (rch_order hs hn).1 (hk.step hw hb).any
      obtain ⟨h0, hd, h1⟩ := D.T.anc_step ha (fun e => hb (by rw [e]))
      exact ih (D.law w k a hRw h0 ((pr_iff hs (D.low _ hRw)).2 hw) hRk h1)
  exact key e h ha
end

structure Lp where
  head : Int
  blocks : List Int
  backs : List Int
  up : Int

structure LpOK (ss : List (List Int)) (x : Lp) : Prop where
  head : 0 ≤ x.head ∧ x.head < ss.length
  mem : ∀ k : Nat, (k : Int) ∈ x.blocks ↔ k < ss.length ∧ (Rch (predsF ss) x.backs x.head k ∨ (k : Int) = x.head)
  low : ∀ k, k ∈ x.blocks → 0 ≤ k
  backs : ∀ e, e ∈ x.backs → 0 ≤ e ∧ e < ss.length ∧ Rch ss [0] (-1) e.toNat ∧ Rch ss [0] (-1) x.head.toNat ∧ ¬ Rch ss [0] x.head e.toNat

section
variable {ss : List (List Int)} (hs : Edges ss) {x : Lp} (L : LpOK ss x)
include hs L
theorem LpOK.into {k b : Nat} (hb : (b : Int) ∈ ss.getD k []) (hm : (b : Int) ∈ x.blocks) (hne : (b : Int) ≠ x.head) : (k : Int) ∈ x.blocks := by
  have hk := getD_lt hb
  obtain ⟨h1, h2 | h2⟩ := (L.mem b).1 hm
  · rw [L.mem k]
    refine ⟨hk, ?_⟩
    by_cases e : (k : Int) = x.head
    · exact .inr e
    · refine .inl (.step h2 ?_ e)
      exact (preds_mem hs h1).2 ⟨by omega, by rw [Int.toNat_natCast]; exact hb⟩
  · exact absurd h2 hne
theorem LpOK.ahead {k : Nat} (hm : (k : Int) ∈ x.blocks) (hne : (k : Int) ≠ x.head) (hr : Rch ss [0] x.head k) : False := by
  obtain ⟨_, h2 | h2⟩ := (L.mem k).1 hm
  · have key : ∀ v, Rch (predsF ss) x.backs x.head v → Rch ss [0] x.head v → False := by
      intro v h
      induction h with
      | start h hb =>
        rename_i v
        intro hr
        have := (L.backs _ h).2.2.2.2
        rw [Int.toNat_natCast] at this
        exact this hr
      | step hk hw hb ih =>
        rename_i k w
        intro hr
        have hkl : k < (predsF ss).length := getD_lt hw
        rw [predsF_len] at hkl
        have h3 := (preds_mem hs hkl).1 hw
        rw [Int.toNat_natCast] at h3
        exact ih (hr.step h3.2 hk.not_but)
    exact key k h2 hr
  · exact hne h2
theorem LpOK.head_in : x.head ∈ x.blocks := by
  have h := L.head
  have := (L.mem x.head.toNat).2 ⟨by omega, .inr (by omega)⟩
  rwa [Int.toNat_of_nonneg h.1] at this
theorem LpOK.head_met {k : Nat} (hm : (k : Int) ∈ x.blocks) (hr : Rch ss [0] (-1) k) : Rch ss [0] (-1) x.head.toNat := by
  obtain ⟨_, h2 | h2⟩ := (L.mem k).1 hm
  · have key : ∀ v, Rch (predsF ss) x.backs x.head v → Rch ss [0] (-1) x.head.toNat := by
      intro v h
      induction h with
      | start h _ => exact (L.backs _ h).2.2.2.1
      | step _ _ _ ih => exact ih
    exact key k h2
  · rw [← h2, Int.toNat_natCast]; exact hr
end

theorem nested_law {ss : List (List Int)} (hs : Edges ss) {x y : Lp} (L : LpOK ss x) (M : LpOK ss y) {k : Nat} (hr : Rch ss [0] (-1) k) (hx : (k : Int) ∈ x.blocks) (hy : (k : Int) ∈ y.blocks) : y.head ∈ x.blocks ∨ x.head ∈ y.blocks := by
  induction hr with
  | @start v h _ =>
    by_cases e : (v : Int) = x.head
    · exact .inr (e ▸ hy)
    · exact absurd (Rch.start h e) (fun h => L.ahead hs hx e h)
  | @step k w hk hw hb ih =>
    by_cases e : (w : Int) = x.head
    · exact .inr (e ▸ hy)
    · by_cases e' : (w : Int) = y.head
      · exact .inl (e' ▸ hx)
      · exact ih (L.into hs hw hx e) (M.into hs hw hy e')
end Go.Proofs.Ytdkknhpdjcdmfaa.Abs

/- Does a block stand ahead of another one, by the tree? -/
set_option linter.unusedSimpArgs false
set_option linter.unusedVariables false
namespace Go.Proofs.Ytdkknhpdjcdmfaa.Abs
open Go Go.RowKit Go.Proofs

def Deep (n : Nat) (up dp : List Int) : Prop := ∀ v, v < n → Done up v → v ≠ 0 → ∃ x, dp[nx up v]? = some x ∧ dp[v]? = some (x + 1)
theorem deep_anc {n : Nat} {pl : Nat → Nat} {up dp : List Int} (T : Tr n pl up) (hd : Deep n up dp) (hl : dp.length = n) {a v : Nat} (h : Anc up a v) : v < n → Done up v → ∃ x y, dp[a]? = some x ∧ dp[v]? = some y ∧ x ≤ y ∧ (a ≠ v → x < y) := by
  induction h with
  | refl =>
    intro hv _
    exact ⟨_, _, List.getElem?_eq_getElem (by omega), List.getElem?_eq_getElem (by omega), by omega, fun h => absurd rfl h⟩
  | step h0 hdn _ ih =>
    intro hv dv
    obtain ⟨g1, g2, g3⟩ := T.link _ hv dv h0
    obtain ⟨x, y, e1, e2, e3, _⟩ := ih g1 g2
    obtain ⟨z, k1, k2⟩ := hd _ hv dv h0
    rw [e2] at k1
    injection k1 with k1
    exact ⟨x, _, e1, k2, by omega, fun _ => by omega⟩
def ahS (h : Heap) (up dp : List Int) (kids : List (List Int)) (r : Bool) (a b : Nat) : St := ⟨[(1, I (a : Nat)), (2, I (b : Nat)), (0, treeV up dp kids)], h, []⟩
theorem ah_loop (h : Heap) (up dp : List Int) (kids : List (List Int)) {n : Nat} {pl : Nat → Nat} (T : Tr n pl up) (hd : DepOK n 1000 dp) (hdx : Deep n up dp) (a b : Nat) (ha : a < n) (hb : b < n) (db : Done up b) :
    ∃ c : Nat, c < n ∧ Done up c ∧ Anc up c b ∧ (Anc up a b → a = c) ∧ lpK 34 Try.f34 76 0 h (ahS h up dp kids false a b) = some (.exit 0, ahS h up dp kids false a c) := by
  have q := qt34
  simp [Try.f34, quietFn, quietRegs] at q
  have hul := T.len
  have lkn : ∀ v, v < n → Done up v → up[v]? = some (nx up v : Int) := fun v hv hd => by
    have : up[v]? = some (up.getD v (-1)) := by rw [List.getD, List.getElem?_eq_getElem (by omega)]; rfl
    rw [this]
    unfold Done lk at hd
    unfold nx lk
    congr 1
    omega
  have key := loop_rel (P := Try.prog) (C := cfg) (sc := runScope Try.prog cfg 76 h.length (cfg.live 34) 0) (N := 76) (n0 := h.length) (K := cfg.live 34) (c := loopAt Try.f34 0)
    (fun b : Nat => ahS h up dp kids false a b) (fun b => b < n ∧ Done up b) (fun b => pl b) (fun b r => ∃ c : Nat, c < n ∧ Done up c ∧ Anc up c b ∧ (Anc up a b → a = c) ∧ r = (.exit 0, ahS h up dp kids false a c)) ?_ b ⟨hb, db⟩
  · obtain ⟨r, h1, c, c1, c2, c3, c4, rfl⟩ := key
    exact ⟨c, c1, c2, c3, c4, h1⟩
  rintro b ⟨jb, jd⟩
  obtain ⟨hdl, hd0, hdr⟩ := hd
  obtain ⟨x, hx⟩ : ∃ x, dp[a]? = some x := ⟨_, List.getElem?_eq_getElem (by omega)⟩
  obtain ⟨y, hy⟩ : ∃ y, dp[b]? = some y := ⟨_, List.getElem?_eq_getElem (by omega)⟩
  have hxr := hdr x (List.mem_of_getElem? hx)
  have hUb := lkn b jb jd
  by_cases hlt : x < y
  · have h0 : b ≠ 0 := fun e => by
      subst e
      rw [hd0] at hy
      injection hy with hy
      omega
    obtain ⟨g1, g2, g3⟩ := T.link b jb jd h0
    refine .inl ⟨nx up b, ?_, ⟨g1, g2⟩, g3, ?_⟩
    · simp (disch := (first | omega | simp (disch := omega) [])) [round_eq, ahS, treeV, Try.f34, lv34, q, hx, hy, hUb, hlt, hul, hdl, ha, jb, -getElem?_pos]
    · rintro r ⟨c, c1, c2, c3, c4, c5⟩
      refine ⟨c, c1, c2, .step h0 jd c3, fun hab => ?_, c5⟩
      have hne : a ≠ b := fun e => by
        subst e
        rw [hx] at hy
        injection hy with hy
        omega
      exact c4 (T.anc_step hab hne).2.2
  · refine .inr ⟨(.exit 0, ahS h up dp kids false a b), ?_, nofun, b, jb, jd, .refl b, fun hab => ?_, rfl⟩
    · simp (disch := (first | omega | simp (disch := omega) [])) [round_eq, ahS, treeV, Try.f34, lv34, q, hx, hy, hUb, hlt, hul, hdl, ha, jb, -getElem?_pos]
    · obtain ⟨x', y', e1, e2, e3, e4⟩ := deep_anc T hdx hdl hab jb jd
      rw [hx] at e1
      rw [hy] at e2
      injection e1 with e1
      injection e2 with e2
      apply Classical.byContradiction
      intro hne
      have := e4 hne
      omega

theorem ahead (h : Heap) (up dp : List Int) (kids : List (List Int)) {n : Nat} {pl : Nat → Nat} (T : Tr n pl up) (hd : DepOK n 1000 dp) (hdx : Deep n up dp) (hn : n ≤ 1000) (a b : Int) :
    ∃ r : Bool, CX 34 [treeV up dp kids, I a, I b] h = some (Bo r, h, []) ∧ (r = true ↔ ∃ x y : Nat, a = (x : Int) ∧ b = (y : Int) ∧ x < n ∧ y < n ∧ Done up x ∧ Done up y ∧ Anc up x y) := by
  have hul := T.len
  have hdl := hd.1
  have hk : cfg.keep 34 = 0 := rfl
  by_cases ha0 : a < 0
  · refine ⟨false, CI_of Try.func34 rfl 0 ?_, nofun, fun ⟨x, y, e1, _⟩ => by omega⟩
    simp (disch := (first | omega | simp (disch := omega) [])) [Try.f34, lv34, hk, treeV, ha0, -getElem?_pos]
  by_cases hb0 : b < 0
  · refine ⟨false, CI_of Try.func34 rfl 0 ?_, nofun, fun ⟨x, y, _, e2, _⟩ => by omega⟩
    simp (disch := (first | omega | simp (disch := omega) [])) [Try.f34, lv34, hk, treeV, ha0, hb0, -getElem?_pos]
  obtain ⟨x, rfl⟩ : ∃ x : Nat, a = (x : Int) := ⟨a.toNat, by omega⟩
  obtain ⟨y, rfl⟩ : ∃ y : Nat, b = (y : Int) := ⟨b.toNat, by omega⟩
  by_cases hxn : x < n
  · by_cases hyn : y < n
    · obtain ⟨ux, hux⟩ : ∃ ux, up[x]? = some ux := ⟨_, List.getElem?_eq_getElem (by omega)⟩
      obtain ⟨uy, huy⟩ : ∃ uy, up[y]? = some uy := ⟨_, List.getElem?_eq_getElem (by omega)⟩
      have hlx : lk up x = ux := by unfold lk; rw [List.getD, hux]; rfl
      have hly : lk up y = uy := by unfold lk; rw [List.getD, huy]; rfl
      have hxI : ¬ ((n : Nat) : Int) ≤ ((x : Nat) : Int) := by omega
      have hyI : ¬ ((n : Nat) : Int) ≤ ((y : Nat) : Int) := by omega
      have hxN : ¬ n ≤ x := by omega
      have hyN : ¬ n ≤ y := by omega
      by_cases hx1 : ux < 0
      · refine ⟨false, CI_of Try.func34 rfl 0 ?_, nofun, fun ⟨x', y', e1, _, _, _, d, _⟩ => by
          obtain rfl : x = x' := by omega
          unfold Done at d
          omega⟩
        simp (disch := (first | omega | simp (disch := omega) [])) [Try.f34, lv34, hk, treeV, ha0, hb0, hux, huy, hx1, hul, hxn, hyn, hxI, hyI, hxN, hyN, -getElem?_pos]
      by_cases hy1 : uy < 0
      · refine ⟨false, CI_of Try.func34 rfl 0 ?_, nofun, fun ⟨x', y', _, e2, _, _, _, d, _⟩ => by
          obtain rfl : y = y' := by omega
          unfold Done at d
          omega⟩
        simp (disch := (first | omega | simp (disch := omega) [])) [Try.f34, lv34, hk, treeV, ha0, hb0, hux, huy, hx1, hy1, hul, hxn, hyn, hxI, hyI, hxN, hyN, -getElem?_pos]
      have dx : Done up x := by unfold Done; omega
      have dy : Done up y := by unfold Done; omega
      obtain ⟨c, c1, c2, c3, c4, e⟩ := ah_loop h up dp kids T hd hdx x y hxn hyn dy
      refine ⟨decide (x = c), CI_of Try.func34 rfl 0 ?_, fun hr => ⟨x, y, rfl, rfl, hxn, hyn, dx, dy, by rw [of_decide_eq_true hr]; exact c3⟩, fun ⟨x', y', e1, e2, _, _, _, _, hxy⟩ => by
        obtain rfl : x = x' := by omega
        obtain rfl : y = y' := by omega
        exact decide_eq_true (c4 hxy)⟩
      simp [ahS, treeV, lpK, lv34, Try.f34] at e
      simp (disch := (first | omega | simp (disch := omega) [])) [Try.f34, lv34, hk, treeV, ha0, hb0, hux, huy, hx1, hy1, hul, hxn, hyn, hxI, hyI, hxN, hyN, e, -getElem?_pos]
      exact Bool.eq_iff_iff.2 (by simp; omega)
    · refine ⟨false, CI_of Try.func34 rfl 0 ?_, nofun, fun ⟨x', y', _, e2, _, hy', _⟩ => by omega⟩
      have hxI : ¬ ((n : Nat) : Int) ≤ ((x : Nat) : Int) := by omega
      have hyI : ((n : Nat) : Int) ≤ ((y : Nat) : Int) := by omega
      have hxN : ¬ n ≤ x := by omega
      have hyN : n ≤ y := by omega
      simp (disch := (first | omega | simp (disch := omega) [])) [Try.f34, lv34, hk, treeV, ha0, hb0, hul, hxn, hyn, hxI, hyI, hxN, hyN, -getElem?_pos]
  · refine ⟨false, CI_of Try.func34 rfl 0 ?_, nofun, fun ⟨x', y', e1, _, hx', _⟩ => by omega⟩
    have hxI : ((n : Nat) : Int) ≤ ((x : Nat) : Int) := by omega
    have hxN : n ≤ x := by omega
    simp (disch := (first | omega | simp (disch := omega) [])) [Try.f34, lv34, hk, treeV, ha0, hb0, hul, hxn, hxI, hxN, -getElem?_pos]
end Go.Proofs.Ytdkknhpdjcdmfaa.Abs

/- Who stands ahead of whom, told by ways; the edges that go back. -/
set_option linter.unusedSimpArgs false
set_option linter.unusedVariables false
set_option linter.unusedSectionVars false
namespace Go.Proofs.Ytdkknhpdjcdmfaa.Abs
open Go Go.RowKit Go.Proofs

def AhP (ss : List (List Int)) (a b : Nat) : Prop := Rch ss [0] (-1) a ∧ Rch ss [0] (-1) b ∧ (a = b ∨ ¬ Rch ss [0] (a : Int) b)
noncomputable def ahB (ss : List (List Int)) (a b : Int) : Bool := @decide (0 ≤ a ∧ 0 ≤ b ∧ AhP ss a.toNat b.toNat) (Classical.propDecidable _)
theorem ahB_iff {ss : List (List Int)} {a b : Int} : ahB ss a b = true ↔ 0 ≤ a ∧ 0 ≤ b ∧ AhP ss a.toNat b.toNat := by
  unfold ahB; exact @decide_eq_true_iff _ (Classical.propDecidable _)
theorem ahB_nat {ss : List (List Int)} {a b : Nat} : ahB ss (a : Int) (b : Int) = true ↔ AhP ss a b := by
  rw [ahB_iff, Int.toNat_natCast, Int.toNat_natCast]
  exact ⟨fun h => h.2.2, fun h => ⟨by omega, by omega, h⟩⟩
section
variable {ss : List (List Int)} (hs : Edges ss) (hn : 0 < ss.length)
include hs hn
theorem wy_rch {a v : Nat} (h : Wy (prOf (predsF ss)) a v) : Rch ss [0] (a : Int) v := by
  induction h with
  | zero h => exact .start (by simp) (by omega)
  | step hk hw hb ih =>
    have hv := getD_lt hw
    rw [predsF_len] at hv
    exact .step ih ((pr_iff hs hv).1 hw) (by omega)
theorem doms_exact {pl : Nat → Nat} {up : List Int} (D : Doms ss.length (fun v => (v : Int) ∈ orderF ss) pl (predsF ss) up) {x y : Nat} : (x < ss.length ∧ y < ss.length ∧ Done up x ∧ Done up y ∧ Anc up x y) ↔ AhP ss x y := by
  constructor
  · rintro ⟨h1, h2, h3, h4, h5⟩
    exact ⟨(rch_order hs hn).2 ((D.done x h1).1 h3), (rch_order hs hn).2 ((D.done y h2).1 h4), .inr fun h => doms_way hs hn D h5 h⟩
  · rintro ⟨h1, h2, h3⟩
    have r1 := (rch_order hs hn).1 h1
    have r2 := (rch_order hs hn).1 h2
    have l1 := D.low x r1
    have l2 := D.low y r2
    refine ⟨l1, l2, (D.done x l1).2 r1, (D.done y l2).2 r2, ?_⟩
    rcases h3 with h3 | h3
    · rw [h3]; exact .refl y
    · exact D.full y r2 x fun h => h3 (wy_rch hs hn h)
end

noncomputable def stepE (ss : List (List Int)) (k : Nat) (acc : List (Int × Int)) (b : Int) : List (Int × Int) := if ahB ss b (k : Int) = true then acc ++ [((k : Int), b)] else acc
noncomputable def hdsN (ss : List (List Int)) : Nat → List (Int × Int)
  | 0 => []
  | i + 1 => (ss.getD i []).foldl (stepE ss i) (hdsN ss i)
theorem foldE_len (ss : List (List Int)) (k : Nat) : ∀ (xs : List Int) (acc : List (Int × Int)), (xs.foldl (stepE ss k) acc).length ≤ acc.length + xs.length
  | [], acc => by simp
  | x :: xs, acc => by
    have h1 := foldE_len ss k xs (stepE ss k acc x)
    have h2 : (stepE ss k acc x).length ≤ acc.length + 1 := by unfold stepE; split <;> simp
    simp only [List.foldl_cons, List.length_cons]
    omega
theorem hdsN_len {ss : List (List Int)} (hs : Edges ss) : ∀ i, i ≤ ss.length → (hdsN ss i).length ≤ 1000 * i
  | 0, _ => by simp [hdsN]
  | i + 1, hi => by
    have h1 := foldE_len ss i (ss.getD i []) (hdsN ss i)
    have h2 := hdsN_len hs i (by omega)
    have h3 : (ss.getD i []).length ≤ 1000 := by
      rw [List.getD, List.getElem?_eq_getElem (by omega)]
      exact (hs.each _ (List.getElem_mem _)).1
    show ((ss.getD i []).foldl (stepE ss i) (hdsN ss i)).length ≤ _
    omega
theorem foldE_back {ss : List (List Int)} {k : Nat} (e : Int × Int) : ∀ (xs : List Int) (acc : List (Int × Int)), e ∈ xs.foldl (stepE ss k) acc → e ∈ acc ∨ (e.1 = (k : Int) ∧ e.2 ∈ xs ∧ ahB ss e.2 (k : Int) = true)
  | [], acc, h => .inl h
  | x :: xs, acc, h => by
    rw [List.foldl_cons] at h
    rcases foldE_back e xs _ h with h | ⟨h1, h2, h3⟩
    · unfold stepE at h
      split at h
      · rename_i hx
        rcases List.mem_append.1 h with h | h
        · exact .inl h
        · rw [List.mem_singleton.1 h]; exact .inr ⟨rfl, by simp, hx⟩
      · exact .inl h
    · exact .inr ⟨h1, by simp [h2], h3⟩
theorem hdsN_back {ss : List (List Int)} {e : Int × Int} : ∀ i, e ∈ hdsN ss i → ∃ x y : Nat, e.2 = (x : Int) ∧ e.1 = (y : Int) ∧ y < i ∧ AhP ss x y
  | 0, h => by simp [hdsN] at h
  | i + 1, h => by
    rcases foldE_back e _ _ h with h | ⟨h1, h2, h3⟩
    · obtain ⟨x, y, a, b, c, d⟩ := hdsN_back i h
      exact ⟨x, y, a, b, by omega, d⟩
    · obtain ⟨g1, g2, g3⟩ := ahB_iff.1 h3
      rw [Int.toNat_natCast] at g3
      exact ⟨e.2.toNat, i, by omega, h1, by omega, g3⟩

def addB (hd : Int) (acc : List Int) (e : Int × Int) : List Int := if e.2 = hd then acc ++ [e.1] else acc
def backsOf (hd : Int) (es : List (Int × Int)) : List Int := es.foldl (addB hd) []
theorem addB_len (hd : Int) (acc : List Int) (e : Int × Int) : (addB hd acc e).length ≤ acc.length + 1 := by unfold addB; split <;> simp
theorem foldB_mem (hd : Int) : ∀ (es : List (Int × Int)) (acc : List Int) (x : Int), x ∈ es.foldl (addB hd) acc → x ∈ acc ∨ (x, hd) ∈ es
  | [], acc, x, h => .inl h
  | e :: es, acc, x, h => by
    rw [List.foldl_cons] at h
    rcases foldB_mem hd es _ x h with h | h
    · unfold addB at h
      split at h
      · rename_i he
        rcases List.mem_append.1 h with h | h
        · exact .inl h
        · rw [List.mem_singleton.1 h, ← he]; exact .inr (by simp)
      · exact .inl h
    · exact .inr (by simp [h])
theorem foldB_len (hd : Int) : ∀ (es : List (Int × Int)) (acc : List Int), (es.foldl (addB hd) acc).length ≤ acc.length + es.length
  | [], acc => by simp
  | e :: es, acc => by
    have h1 := foldB_len hd es (addB hd acc e)
    have h2 := addB_len hd acc e
    simp only [List.foldl_cons, List.length_cons]
    omega

noncomputable def bkN (ss : List (List Int)) (hd : Nat) : Nat → List Int
  | 0 => []
  | k + 1 => if (hd : Int) ∈ ss.getD k [] ∧ ahB ss (hd : Int) (k : Int) = true then bkN ss hd k ++ [(k : Int)] else bkN ss hd k
theorem backs_step {ss : List (List Int)} (hd k : Nat) : ∀ (xs : List Int) (acc : List (Int × Int)), xs.Nodup → (xs.foldl (stepE ss k) acc).foldl (addB (hd : Int)) [] = if (hd : Int) ∈ xs ∧ ahB ss (hd : Int) (k : Int) = true then acc.foldl (addB (hd : Int)) [] ++ [(k : Int)] else acc.foldl (addB (hd : Int)) []
  | [], acc, _ => by simp
  | x :: xs, acc, hn => by
    obtain ⟨h1, h2⟩ := List.nodup_cons.1 hn
    rw [List.foldl_cons, backs_step hd k xs _ h2]
    by_cases e : x = (hd : Int)
    · subst e
      rw [if_neg (fun h => h1 h.1)]
      unfold stepE
      by_cases ha : ahB ss (hd : Int) (k : Int) = true
      · rw [if_pos ha, if_pos ⟨by simp, ha⟩, List.foldl_append]
        simp [addB]
      · rw [if_neg ha, if_neg (fun h => ha h.2)]
    · have hf : (stepE ss k acc x).foldl (addB (hd : Int)) [] = acc.foldl (addB (hd : Int)) [] := by
        unfold stepE
        split
        · rw [List.foldl_append]
          simp [addB, e]
        · rfl
      rw [hf]
      have : ((hd : Int) ∈ x :: xs) ↔ (hd : Int) ∈ xs := by
        rw [List.mem_cons]
        exact ⟨fun h => h.resolve_left fun e' => e e'.symm, .inr⟩
      simp only [this]
theorem backs_hds {ss : List (List Int)} (hn : ∀ l, l ∈ ss → l.Nodup) (hd : Nat) : ∀ i, backsOf (hd : Int) (hdsN ss i) = bkN ss hd i
  | 0 => rfl
  | i + 1 => by
    have hnd : (ss.getD i []).Nodup := by
      rw [List.getD]
      cases he : ss[i]? with
      | none => exact List.nodup_nil
      | some l => exact hn l (List.mem_of_getElem? he)
    have := backs_step (ss := ss) hd i (ss.getD i []) (hdsN ss i) hnd
    have ih := backs_hds hn hd i
    unfold backsOf at ih ⊢
    rw [ih] at this
    show ((ss.getD i []).foldl (stepE ss i) (hdsN ss i)).foldl _ [] = _
    rw [this, bkN]
end Go.Proofs.Ytdkknhpdjcdmfaa.Abs

/- A tree of blocks tells who stands ahead of whom. -/
set_option linter.unusedSimpArgs false
set_option linter.unusedVariables false
namespace Go.Proofs.Ytdkknhpdjcdmfaa.Abs
open Go Go.RowKit Go.Proofs

theorem tree_of (h : Heap) (f : Fn) (hf : f.Fine) (hn : 0 < f.blocks.length) (hn2 : f.blocks.length ≤ 12) :
    ∃ up dp kids, CX 32 [.agg (encFn f)] h = some (treeV up dp kids, h, []) ∧ (∀ h (a b : Int), CX 34 [treeV up dp kids, I a, I b] h = some (Bo (ahB (f.blocks.map nextB) a b), h, [])) ∧
      Doms f.blocks.length (fun v => (v : Int) ∈ orderF (f.blocks.map nextB)) (plF f.blocks.length (orderF (f.blocks.map nextB))) (predsF (f.blocks.map nextB)) up ∧ DepOK f.blocks.length 1000 dp ∧ Deep f.blocks.length up dp ∧ kids.length = f.blocks.length ∧ DpNo f.blocks.length (fun v => (v : Int) ∈ orderF (f.blocks.map nextB)) dp ∧ KidsOK f.blocks.length (fun v => (v : Int) ∈ orderF (f.blocks.map nextB)) up kids := by
  have hsl : (f.blocks.map nextB).length = f.blocks.length := by simp
  have hD := dom_in hf.edges (by omega)
  have hH := dom_hat hf.edges (by omega)
  rw [hsl] at hD hH
  obtain ⟨up, dp, kids, e1, D, hdp, hdx, hkn, hno, hkk⟩ := domOf h f hf hn hn2 hD (fun l hl => by have := preds_len hf.edges l hl; omega) hH
  have hdeep : Deep f.blocks.length up dp := fun v hv dv h0 => hdx v ((D.done v hv).1 dv) h0
  refine ⟨up, dp, kids, e1, fun h a b => ?_, D, hdp, hdeep, hkn, hno, hkk⟩
  obtain ⟨r, e, hr⟩ := ahead h up dp kids D.T hdp hdeep (by omega) a b
  have D' := D
  rw [← hsl] at D'
  have : r = ahB (f.blocks.map nextB) a b := by
    rw [Bool.eq_iff_iff, hr, ahB_iff]
    constructor
    · rintro ⟨x, y, rfl, rfl, h1, h2, h3⟩
      rw [Int.toNat_natCast, Int.toNat_natCast]
      exact ⟨by omega, by omega, (doms_exact hf.edges (by omega) D').1 ⟨by omega, by omega, h3⟩⟩
    · rintro ⟨h1, h2, h3⟩
      obtain ⟨g1, g2, g3⟩ := (doms_exact hf.edges (by omega) D').2 h3
      exact ⟨a.toNat, b.toNat, by omega, by omega, by omega, by omega, g3⟩
  rw [e, this]
end Go.Proofs.Ytdkknhpdjcdmfaa.Abs

/- To which blocks each one goes, as the document tells it. -/
set_option linter.unusedSimpArgs false
set_option linter.unusedVariables false
namespace Go.Proofs.Ytdkknhpdjcdmfaa.Abs
open Go Go.RowKit Go.Proofs

def nxS (h : Heap) (xs : List Int) (i : Nat) (out : List Int) : St := ⟨[(7, I (i : Nat)), (6, Sl (intsOf xs)), (5, .one (.sl h.length 1 out.length 0 out.length))], h ++ [some (.row 1 (intsOf out))], []⟩
theorem nx_loop (h : Heap) (xs : List Int) (hx : Fit xs) :
    lpK 45 Try.f45 44 0 h (nxS h xs 0 []) = some (.exit 0, nxS h xs xs.length (xs.foldl addU [])) := by
  refine loop_list (P := Try.prog) (C := cfg) (sc := runScope Try.prog cfg 44 h.length (cfg.live 45) 0) (N := 44) (n0 := h.length) (K := cfg.live 45) (c := loopAt Try.f45 0) xs addU
    (fun i out => nxS h xs i out) (fun out => (.exit 0, nxS h xs xs.length out)) (fun i out => out.length ≤ i) ?_ ?_ [] (by simp)
  · intro i out x hd hl
    have hi := (List.getElem?_eq_some_iff.1 hd).1
    have hiI : ((i : Nat) : Int) < ((xs.length : Nat) : Int) := by omega
    have hxf : xs.length ≤ 17592186044416 := hx
    have hfa : Fit out := by show out.length ≤ 17592186044416; omega
    refine ⟨?_, by have := addU_len out x; omega⟩
    by_cases hc : out.contains x = true
    · have ha : addU out x = out := by rw [addU, if_pos hc]
      rw [ha]
      simp (disch := omega) [round_eq, nxS, Try.f45, lv45, hd, hi, hiI, wrap_i64, has _ out hfa, hc, -getElem?_pos, -List.contains_eq_mem]
    · have hc' : out.contains x = false := by simpa using hc
      have ha : addU out x = out ++ [x] := by rw [addU, if_neg hc]
      rw [ha]
      simp (disch := omega) [round_eq, nxS, Try.f45, lv45, hd, hi, hiI, wrap_i64, has _ out hfa, hc', room_of, intsOf_snoc, -getElem?_pos, -List.contains_eq_mem]
  · intro out hl
    refine ⟨?_, nofun⟩
    simp (disch := omega) [round_eq, nxS, Try.f45, lv45, -getElem?_pos]

theorem next (h : Heap) (f : Fn) (hf : f.Ok) (he : Ended f) (k : Nat) (l : List Ins) (hl : f.blocks[k]? = some l) : CX 45 [.agg (encFn f), I (k : Nat)] h = some (Sl (intsOf (nextB l)), h, []) := by
  have q := qt45
  simp [Try.f45, quietFn, quietRegs] at q
  have hm := List.mem_of_getElem? hl
  have hne := he l hm
  have hlp : 0 < l.length := List.length_pos_iff.2 hne
  have hlf := hf.code l hm
  have hkl := (List.getElem?_eq_some_iff.1 hl).1
  have hb := hf.blocks
  obtain ⟨x, hx⟩ : ∃ x, l[l.length - 1]? = some x := ⟨_, List.getElem?_eq_getElem (by omega)⟩
  have hto : toB l = x.to := by unfold toB; rw [hx]
  have e := nx_loop (h ++ []) (toB l) (toB_ok hf hm)
  rw [List.append_nil, hto] at e
  have hnb : nextB l = x.to.foldl addU [] := by unfold nextB; rw [hto]
  rw [hnb]
  have hc : ((l.length : Int) - 1) = ((l.length - 1 : Nat) : Int) := by omega
  have hlt1 : l.length - 1 < l.length := by omega
  refine CI_of Try.func45 rfl 0 ?_
  have hk : cfg.keep 45 = 0 := rfl
  simp [nxS, lpK, lv45, Try.f45] at e
  simp (disch := omega) [Try.f45, lv45, hk, q, encFn, encIns, hl, hkl, hx, hc, hlt1, wrap_i64, e, -getElem?_pos]

def suO8 (h : Heap) (f : Fn) (k : Nat) (done : List (List Int)) : St := ⟨[(4, I (k : Nat)), (1, .one (.ptr h.length 1 0 0)), (3, .one (.sl (h.length + 1) 1 done.length 0 done.length))], h ++ [some (.row 5 [encFn f]), some (.row 1 (listsOf done))], []⟩
theorem listsOf_snoc' (ls : List (List Int)) (l : List Int) : listsOf ls ++ [[.isl (intsOf l)]] = listsOf (ls ++ [l]) := by simp [listsOf]
theorem su8_loop (h : Heap) (f : Fn) (hf : f.Ok) (he : Ended f) (hn : f.blocks.length ≤ 1000) :
    lpK 79 Try.f79 19 0 h (suO8 h f 0 []) = some (.exit 0, suO8 h f f.blocks.length (f.blocks.map nextB)) := by
  have key := loop_list (P := Try.prog) (C := cfg) (sc := runScope Try.prog cfg 19 h.length (cfg.live 79) 0) (N := 19) (n0 := h.length) (K := cfg.live 79) (c := loopAt Try.f79 0) f.blocks (fun done l => done ++ [nextB l])
    (fun i done => suO8 h f i done) (fun done => (.exit 0, suO8 h f f.blocks.length done)) (fun i done => done.length = i) ?_ ?_ [] rfl
  · have hfold : ∀ (ls : List (List Ins)) (d : List (List Int)), ls.foldl (fun done l => done ++ [nextB l]) d = d ++ ls.map nextB := by
      intro ls
      induction ls with
      | nil => intro d; simp
      | cons l ls ih => intro d; rw [List.foldl_cons, ih]; simp
    rw [hfold, List.nil_append] at key
    exact key
  · intro i done l hl hd
    subst hd
    have hi := (List.getElem?_eq_some_iff.1 hl).1
    have hiI : ((done.length : Nat) : Int) < ((f.blocks.length : Nat) : Int) := by omega
    refine ⟨?_, by simp⟩
    have e := next (h ++ [some (.row 5 [encFn f]), some (.row 1 (listsOf done))]) f hf he done.length l hl
    simp [encFn] at e
    simp (disch := omega) [round_eq, suO8, encFn, Try.f79, lv79, hi, hiI, e, wrap_i64, room_of, listsOf_snoc', -getElem?_pos]
  · intro done hd
    refine ⟨?_, nofun⟩
    simp (disch := omega) [round_eq, suO8, encFn, Try.f79, lv79, -getElem?_pos]
theorem succs8 (h : Heap) (f : Fn) (hf : f.Ok) (he : Ended f) (hn : f.blocks.length ≤ 1000) : CX 79 [.agg (encFn f)] h = some (Sl (listsOf (f.blocks.map nextB)), h, []) := by
  have e := su8_loop h f hf he hn
  refine CI_of Try.func79 rfl 0 ?_
  have hk : cfg.keep 79 = 0 := rfl
  simp [suO8, lpK, encFn, lv79, Try.f79] at e
  simp (disch := omega) [Try.f79, lv79, hk, encFn, e, -getElem?_pos]
end Go.Proofs.Ytdkknhpdjcdmfaa.Abs

/- Who is reached from some, in rounds: what is kept. -/
set_option linter.unusedSimpArgs false
set_option linter.unusedVariables false
namespace Go.Proofs.Ytdkknhpdjcdmfaa.Abs
open Go Go.RowKit Go.Proofs

def Mt (met : List Bool) (v : Nat) : Prop := met[v]? = some true
def Cl (E : List (List Int)) (but : Int) (met : List Bool) (k : Nat) : Prop := ∀ w, w ∈ E.getD k [] → w ≠ but → Mt met w.toNat
theorem mt_set {met : List Bool} {b v : Nat} (hb : b < met.length) : Mt (met.set b true) v ↔ v = b ∨ Mt met v := by
  unfold Mt
  rw [List.getElem?_set]
  by_cases e : b = v
  · subst e; simp [hb]
  · rw [if_neg e]
    exact ⟨.inr, fun h => h.resolve_left fun h' => e h'.symm⟩
theorem Cl.set {E : List (List Int)} {but : Int} {met : List Bool} {b k : Nat} (hb : b < met.length) (h : Cl E but met k) : Cl E but (met.set b true) k := fun w hw hn => (mt_set hb).2 (.inr (h w hw hn))
theorem unmet_set' {met : List Bool} {b : Nat} (hb : b < met.length) (h : ¬ Mt met b) : unmet (met.set b true) + 1 = unmet met := by
  refine unmet_set ?_
  unfold Mt at h
  rw [List.getElem?_eq_getElem hb] at h ⊢
  cases hx : met[b]
  · rfl
  · rw [hx] at h; exact absurd rfl h

structure RI (n : Nat) (E : List (List Int)) (from_ : List Int) (but : Int) (met : List Bool) (Q : Nat → Prop) : Prop where
  len : met.length = n
  sound : ∀ v, Mt met v → Rch E from_ but v
  clo : ∀ v, Mt met v → Q v ∨ Cl E but met v
theorem RI.mono {n : Nat} {E : List (List Int)} {from_ : List Int} {but : Int} {met : List Bool} {Q Q' : Nat → Prop} (h : RI n E from_ but met Q) (hq : ∀ v, Q v → Q' v ∨ Cl E but met v) : RI n E from_ but met Q' :=
  ⟨h.len, h.sound, fun v hv => by
    rcases h.clo v hv with h1 | h1
    · exact hq v h1
    · exact .inr h1⟩
theorem RI.set {n : Nat} {E : List (List Int)} {from_ : List Int} {but : Int} {met : List Bool} {Q : Nat → Prop} (h : RI n E from_ but met Q) {b : Nat} (hb : b < n) (hr : Rch E from_ but b) : RI n E from_ but (met.set b true) (fun v => Q v ∨ v = b) := by
  have hl := h.len
  refine ⟨by simpa using hl, fun v hv => ?_, fun v hv => ?_⟩
  · rcases (mt_set (by omega)).1 hv with e | hv
    · rw [e]; exact hr
    · exact h.sound v hv
  · rcases (mt_set (by omega)).1 hv with e | hv
    · exact .inl (.inr e)
    · rcases h.clo v hv with h1 | h1
      · exact .inl (.inl h1)
      · exact .inr (h1.set (by omega))
theorem RI.all {n : Nat} {E : List (List Int)} {from_ : List Int} {but : Int} {met : List Bool} (h : RI n E from_ but met (fun _ => False)) (hf : ∀ k, k ∈ from_ → k ≠ but → Mt met k.toNat) (v : Nat) : Mt met v ↔ Rch E from_ but v := by
  refine ⟨h.sound v, fun hr => ?_⟩
  induction hr with
  | start h' hb =>
    have := hf _ h' hb
    rwa [Int.toNat_natCast] at this
  | step hk hw hb ih =>
    rcases h.clo _ ih with h1 | h1
    · exact h1.elim
    · have := h1 _ hw hb
      rwa [Int.toNat_natCast] at this
def OpOK (E : List (List Int)) (from_ : List Int) (but : Int) (op : List Int) : Prop := ∀ x, x ∈ op → 0 ≤ x ∧ x < E.length ∧ Rch E from_ but x.toNat
end Go.Proofs.Ytdkknhpdjcdmfaa.Abs

/- Which blocks are reached from the first one, not by way of one, as the document tells it. -/
set_option linter.unusedSimpArgs false
set_option linter.unusedVariables false
namespace Go.Proofs.Ytdkknhpdjcdmfaa.Abs
open Go Go.RowKit Go.Proofs

def metOf (n : Nat) (l : List Int) : List Bool := (List.range n).map fun v => l.contains ((v : Nat) : Int)
@[simp] theorem metOf_length (n : Nat) (l : List Int) : (metOf n l).length = n := by simp [metOf]
theorem metOf_mt {n : Nat} {l : List Int} {v : Nat} : Mt (metOf n l) v ↔ v < n ∧ (v : Int) ∈ l := by
  unfold Mt metOf
  rw [List.getElem?_map]
  rcases Nat.lt_or_ge v n with h | h
  · rw [List.getElem?_range h]; simp [h]
  · rw [List.getElem?_eq_none (by simpa using h)]; simp; omega
theorem metOf_snoc {n : Nat} {l : List Int} {b : Int} (hb : 0 ≤ b) : metOf n (l ++ [b]) = (metOf n l).set b.toNat true := by
  apply List.ext_getElem?
  intro v
  rw [List.getElem?_set]
  unfold metOf
  simp only [List.getElem?_map, List.length_map, List.length_range]
  rcases Nat.lt_or_ge v n with h | h
  · rw [List.getElem?_range h]
    by_cases e : b.toNat = v
    · rw [if_pos e, if_pos (by omega)]
      simp; right; omega
    · rw [if_neg e]
      simp
      intro hv; omega
  · rw [List.getElem?_eq_none (by simpa using h)]
    split
    · rw [if_neg (by omega)]; rfl
    · rfl
theorem metOf_next (l : List Int) (k : Nat) : metOf k l ++ [l.contains ((k : Nat) : Int)] = metOf (k + 1) l := by
  simp [metOf, List.range_succ]

def blV (id : Nat) : Option (List Bool) → V
  | none => .junk
  | some l => .one (.sl id 1 l.length 0 l.length)
def blO : Option (List Bool) → Option AO
  | none => none
  | some l => some (.row 1 (boolsOf l))
@[simp] theorem blV_none (id : Nat) : blV id none = .junk := rfl
@[simp] theorem blV_some (id : Nat) (l : List Bool) : blV id (some l) = .one (.sl id 1 l.length 0 l.length) := rfl
@[simp] theorem blO_none : blO none = none := rfl
@[simp] theorem blO_some (l : List Bool) : blO (some l) = some (.row 1 (boolsOf l)) := rfl
@[simp] theorem boolsOf_nil : boolsOf [] = [] := rfl
theorem boolsOf_snoc (bs : List Bool) (b : Bool) : boolsOf bs ++ [[.bool b]] = boolsOf (bs ++ [b]) := by simp [boolsOf]

def m9S (h : Heap) (f : Fn) (ss : List (List Int)) (but : Int) (l : List Int) (v8 v9 v1 v12 : V) (o11 : Option (List Bool)) : St :=
  ⟨[(2, I but), (7, .one (.sl h.length 1 l.length 0 l.length)), (8, v8), (9, v9), (1, v1), (12, v12), (3, .one (.ptr (h.length + 1) 1 0 0)), (11, blV (h.length + 2) o11), (1009, .junk), (1008, .junk)],
   h ++ [some (.row 1 (intsOf l)), some (.row 5 [encFn f]), blO o11], []⟩

section
variable (h : Heap) (f : Fn) (ss : List (List Int)) (but : Int) (hE : ss.length ≤ 1000) (hEl : ∀ l, l ∈ ss → l.length ≤ 100000 ∧ ∀ x, x ∈ l → 0 ≤ x ∧ x < ss.length)
include hE hEl

theorem m9_in (i : Nat) (es : List Int) (k : Nat) (hk : ss[k]? = some es) (hRk : Rch ss [0] but k) (l : List Int) (hlk : l[i]? = some (k : Int))
    (g1 : RI ss.length ss [0] but (metOf ss.length l) (fun v => v = k ∨ (v : Int) ∈ l.drop (i + 1))) (g3 : OpOK ss [0] but l) (g4 : l.length + unmet (metOf ss.length l) ≤ ss.length) :
    ∃ l', i < l'.length ∧ RI ss.length ss [0] but (metOf ss.length l') (fun v => (v : Int) ∈ l'.drop (i + 1)) ∧ OpOK ss [0] but l' ∧ l'.length + unmet (metOf ss.length l') ≤ ss.length ∧ (∀ x, x ∈ l → x ∈ l') ∧
    lpK 80 Try.f80 73 1 h (m9S h f ss but l (I (i : Nat)) (I (0 : Nat)) (Sl (listsOf ss)) .junk none) = some (.exit 2, m9S h f ss but l' (I (i : Nat)) (I (es.length : Nat)) (Sl (listsOf ss)) .junk none) := by
  obtain ⟨hes, heb⟩ := hEl es (List.mem_of_getElem? hk)
  have hgd : ss.getD k [] = es := by rw [List.getD, hk]; rfl
  have hkl := (List.getElem?_eq_some_iff.1 hk).1
  have key := loop_rel (P := Try.prog) (C := cfg) (sc := runScope Try.prog cfg 73 h.length (cfg.live 80) 0) (N := 73) (n0 := h.length) (K := cfg.live 80) (c := loopAt Try.f80 1)
    (fun s : Nat × List Int => m9S h f ss but s.2 (I (i : Nat)) (I (s.1 : Nat)) (Sl (listsOf ss)) .junk none)
    (fun s => s.1 ≤ es.length ∧ s.2[i]? = some (k : Int) ∧ RI ss.length ss [0] but (metOf ss.length s.2) (fun v => v = k ∨ (v : Int) ∈ s.2.drop (i + 1)) ∧ OpOK ss [0] but s.2 ∧ s.2.length + unmet (metOf ss.length s.2) ≤ ss.length ∧ (∀ (t : Nat) w, es[t]? = some w → t < s.1 → w ≠ but → Mt (metOf ss.length s.2) w.toNat) ∧ ∀ x, x ∈ l → x ∈ s.2) (fun s => es.length - s.1)
    (fun s r => ∃ l', i < l'.length ∧ RI ss.length ss [0] but (metOf ss.length l') (fun v => (v : Int) ∈ l'.drop (i + 1)) ∧ OpOK ss [0] but l' ∧ l'.length + unmet (metOf ss.length l') ≤ ss.length ∧ (∀ x, x ∈ l → x ∈ l') ∧
      r = (.exit 2, m9S h f ss but l' (I (i : Nat)) (I (es.length : Nat)) (Sl (listsOf ss)) .junk none)) ?_ (0, l) ⟨Nat.zero_le _, hlk, g1, g3, g4, fun t w _ ht => by simp only at ht; omega, fun x hx => hx⟩
  · obtain ⟨r, h1, l', h2, h3, h4, h5, h6, rfl⟩ := key
    exact ⟨l', h2, h3, h4, h5, h6, h1⟩
  clear g1 g3 g4
  rintro ⟨p, m⟩ ⟨j1, j2, j3, j4, j5, j6, j7⟩
  simp only at j1 j2 j3 j4 j5 j6 j7 ⊢
  have hil := (List.getElem?_eq_some_iff.1 j2).1
  have hmf : Fit m := by show m.length ≤ _; omega
  rcases Nat.lt_or_ge p es.length with hlt | hge
  · have hltI : ((p : Nat) : Int) < ((es.length : Nat) : Int) := by omega
    obtain ⟨x, hx⟩ : ∃ x, es[p]? = some x := ⟨_, List.getElem?_eq_getElem hlt⟩
    have hxm := List.mem_of_getElem? hx
    obtain ⟨x0, xl⟩ := heb x hxm
    have xln : x.toNat < ss.length := by omega
    by_cases hb : x = but
    · have hbI : (x != but) = false := by simp [hb]
      refine .inl ⟨(p + 1, m), ?_, ⟨hlt, j2, j3, j4, j5, fun t w hw ht hn => ?_, j7⟩, by simp only; omega, fun r h => h⟩
      · simp (disch := omega) [round_eq, m9S, encFn, Try.f80, lv80, j2, hil, hk, hkl, hx, hlt, hltI, hbI, hb, wrap_i64, -getElem?_pos]
      · rcases Nat.lt_or_ge t p with hji | hji
        · exact j6 t w hw hji hn
        · have : t = p := by simp only at ht; omega
          subst this
          rw [hx] at hw; cases hw
          exact absurd hb hn
    · have hbI : (x != but) = true := by simp [hb]
      by_cases hc : m.contains x = true
      · refine .inl ⟨(p + 1, m), ?_, ⟨hlt, j2, j3, j4, j5, fun t w hw ht hn => ?_, j7⟩, by simp only; omega, fun r h => h⟩
        · simp (disch := omega) [round_eq, m9S, encFn, Try.f80, lv80, j2, hil, hk, hkl, hx, hlt, hltI, hbI, has _ m hmf, hc, wrap_i64, -getElem?_pos, -List.contains_eq_mem]
        · rcases Nat.lt_or_ge t p with hji | hji
          · exact j6 t w hw hji hn
          · have : t = p := by simp only at ht; omega
            subst this
            rw [hx] at hw; cases hw
            refine metOf_mt.2 ⟨xln, ?_⟩
            rw [Int.toNat_of_nonneg x0]
            simpa using hc
      · have hc' : m.contains x = false := by simpa using hc
        have hxn : x ∉ m := by simpa using hc
        have hnm : ¬ Mt (metOf ss.length m) x.toNat := fun h' => by
          have := (metOf_mt.1 h').2
          rw [Int.toNat_of_nonneg x0] at this
          exact hxn this
        have hun := unmet_set' (met := metOf ss.length m) (by simpa using xln) hnm
        have hrx : Rch ss [0] but x.toNat := .step hRk (by rw [Int.toNat_of_nonneg x0, hgd]; exact hxm) (by rw [Int.toNat_of_nonneg x0]; exact hb)
        have hset := j3.set xln hrx
        rw [← metOf_snoc x0] at hset hun
        have hmt : ∀ v, Mt (metOf ss.length m) v → Mt (metOf ss.length (m ++ [x])) v := fun v hv => by
          rw [metOf_mt] at hv ⊢; exact ⟨hv.1, by simp [hv.2]⟩
        have hdrop : (m ++ [x]).drop (i + 1) = m.drop (i + 1) ++ [x] := List.drop_append_of_le_length (by omega)
        refine .inl ⟨(p + 1, m ++ [x]), ?_, ⟨hlt, ?_, hset.mono fun v hv => .inl ?_, fun z hz => ?_, ?_, fun t w hw ht hn => ?_, fun z hz => by simp [j7 z hz]⟩, by simp only; omega, fun r h => h⟩
        · simp (disch := omega) [round_eq, m9S, encFn, Try.f80, lv80, j2, hil, hk, hkl, hx, hlt, hltI, hbI, has _ m hmf, hc', room_of, intsOf_snoc, wrap_i64, -getElem?_pos, -List.contains_eq_mem]
        · simp only; rw [List.getElem?_append_left hil]; exact j2
        · rcases hv with (hv | hv) | rfl
          · exact .inl hv
          · exact .inr (by rw [hdrop]; simp [hv])
          · exact .inr (by rw [hdrop]; simp; right; omega)
        · rcases List.mem_append.1 hz with hz | hz
          · exact j4 z hz
          · rw [List.mem_singleton.1 hz]; exact ⟨x0, xl, hrx⟩
        · simp only [List.length_append, List.length_cons, List.length_nil]; omega
        · rcases Nat.lt_or_ge t p with hji | hji
          · exact hmt _ (j6 t w hw hji hn)
          · have : t = p := by simp only at ht; omega
            subst this
            rw [hx] at hw; cases hw
            refine metOf_mt.2 ⟨xln, ?_⟩
            rw [Int.toNat_of_nonneg x0]
            simp
  · have : p = es.length := by omega
    subst this
    refine .inr ⟨(.exit 2, m9S h f ss but m (I (i : Nat)) (I (es.length : Nat)) (Sl (listsOf ss)) .junk none), ?_, nofun, m, hil, j3.mono fun v hv => ?_, j4, j5, j7, rfl⟩
    · simp (disch := omega) [round_eq, m9S, encFn, Try.f80, lv80, j2, hil, hk, hkl, -getElem?_pos]
    · rcases hv with hv | hv
      · subst hv
        refine .inr fun w hw hn => ?_
        rw [hgd] at hw
        obtain ⟨t, ht⟩ := List.getElem?_of_mem hw
        exact j6 t w ht (List.getElem?_eq_some_iff.1 ht).1 hn
      · exact .inl hv

theorem m9_out (l : List Int) (g1 : RI ss.length ss [0] but (metOf ss.length l) (fun v => (v : Int) ∈ l)) (g2 : ∀ x, x ∈ [(0 : Int)] → x ≠ but → x ∈ l) (g3 : OpOK ss [0] but l) (g4 : l.length + unmet (metOf ss.length l) ≤ ss.length) :
    ∃ l', (∀ v, Mt (metOf ss.length l') v ↔ Rch ss [0] but v) ∧ l'.length ≤ ss.length ∧
    lpK 80 Try.f80 73 0 h (m9S h f ss but l (I (0 : Nat)) .junk (Sl (listsOf ss)) .junk none) = some (.exit 0, m9S h f ss but l' (I (l'.length : Nat)) .junk (Sl (listsOf ss)) .junk none) := by
  have key := loop_rel (P := Try.prog) (C := cfg) (sc := runScope Try.prog cfg 73 h.length (cfg.live 80) 0) (N := 73) (n0 := h.length) (K := cfg.live 80) (c := loopAt Try.f80 0)
    (fun s : Nat × List Int => m9S h f ss but s.2 (I (s.1 : Nat)) .junk (Sl (listsOf ss)) .junk none)
    (fun s => s.1 ≤ s.2.length ∧ RI ss.length ss [0] but (metOf ss.length s.2) (fun v => (v : Int) ∈ s.2.drop s.1) ∧ (∀ x, x ∈ [(0 : Int)] → x ≠ but → x ∈ s.2) ∧ OpOK ss [0] but s.2 ∧ s.2.length + unmet (metOf ss.length s.2) ≤ ss.length) (fun s => ss.length - s.1)
    (fun s r => ∃ l', (∀ v, Mt (metOf ss.length l') v ↔ Rch ss [0] but v) ∧ l'.length ≤ ss.length ∧ r = (.exit 0, m9S h f ss but l' (I (l'.length : Nat)) .junk (Sl (listsOf ss)) .junk none)) ?_ (0, l) ⟨Nat.zero_le _, g1, g2, g3, g4⟩
  · obtain ⟨r, h1, l', h2, h3, rfl⟩ := key
    exact ⟨l', h2, h3, h1⟩
  clear g1 g2 g3 g4 l
  rintro ⟨i, l⟩ ⟨j1, j2, j3, j4, j5⟩
  simp only at j1 j2 j3 j4 j5 ⊢
  rcases Nat.lt_or_ge i l.length with hlt | hge
  · have hltI : ((i : Nat) : Int) < ((l.length : Nat) : Int) := by omega
    obtain ⟨x, hx⟩ : ∃ x, l[i]? = some x := ⟨_, List.getElem?_eq_getElem hlt⟩
    obtain ⟨x0, xl, hrx⟩ := j4 x (List.mem_of_getElem? hx)
    obtain ⟨k, rfl⟩ : ∃ k : Nat, x = (k : Int) := ⟨x.toNat, by omega⟩
    rw [Int.toNat_natCast] at hrx
    have hkl : k < ss.length := by omega
    obtain ⟨es, hes⟩ : ∃ es, ss[k]? = some es := ⟨_, List.getElem?_eq_getElem hkl⟩
    have hesl := (hEl es (List.mem_of_getElem? hes)).1
    have hdr : l.drop i = (k : Int) :: l.drop (i + 1) := by
      rw [List.drop_eq_getElem_cons hlt]; rw [List.getElem?_eq_getElem hlt] at hx; injection hx with hx; rw [hx]
    obtain ⟨l', k1, k2, k3, k4, k5, e⟩ := m9_in h f ss but hE hEl i es k hes hrx l hx (j2.mono fun v hv => .inl (by
      rw [hdr] at hv
      rcases List.mem_cons.1 hv with hv | hv
      · exact .inl (by omega)
      · exact .inr hv)) j4 j5
    refine .inl ⟨(i + 1, l'), ?_, ⟨k1, k2, fun x hx hn => k5 x (j3 x hx hn), k3, k4⟩, by simp only; omega, fun r h => h⟩
    simp [m9S, encFn, lpK, lv80, Try.f80] at e
    simp (disch := omega) [round_eq, m9S, encFn, Try.f80, lv80, hx, hlt, hltI, e, wrap_i64, -getElem?_pos]
  · have : i = l.length := by omega
    subst this
    refine .inr ⟨(.exit 0, m9S h f ss but l (I (l.length : Nat)) .junk (Sl (listsOf ss)) .junk none), ?_, nofun, l, RI.all (j2.mono fun v hv => by simp at hv) (fun x hx hn => ?_), by omega, rfl⟩
    · simp (disch := omega) [round_eq, m9S, encFn, Try.f80, lv80, -getElem?_pos]
    · have h0 : x = 0 := by simpa using hx
      subst h0
      have := j3 0 hx hn
      have hb := j4 0 this
      exact metOf_mt.2 ⟨by omega, this⟩
end

theorem m9_last (h : Heap) (f : Fn) (hn : f.blocks.length ≤ 1000) (ss : List (List Int)) (but : Int) (l : List Int) (hl : l.length ≤ 1000) :
    lpK 80 Try.f80 73 2 h (m9S h f ss but l .junk .junk (Sl (listsOf ss)) (I (0 : Nat)) (some [])) = some (.exit 4, m9S h f ss but l .junk .junk (Sl (listsOf ss)) (I (f.blocks.length : Nat)) (some (metOf f.blocks.length l))) := by
  have hlf : Fit l := by show l.length ≤ _; omega
  have key := loop_fun (P := Try.prog) (C := cfg) (sc := runScope Try.prog cfg 73 h.length (cfg.live 80) 0) (N := 73) (n0 := h.length) (K := cfg.live 80) (c := loopAt Try.f80 2)
    (fun k : Nat => m9S h f ss but l .junk .junk (Sl (listsOf ss)) (I (k : Nat)) (some (metOf k l))) (fun k => k ≤ f.blocks.length) (fun k => f.blocks.length - k)
    (fun _ => (.exit 4, m9S h f ss but l .junk .junk (Sl (listsOf ss)) (I (f.blocks.length : Nat)) (some (metOf f.blocks.length l)))) ?_ 0 (Nat.zero_le _)
  · exact key
  intro k hk
  rcases Nat.lt_or_ge k f.blocks.length with hlt | hge
  · have hltI : ((k : Nat) : Int) < ((f.blocks.length : Nat) : Int) := by omega
    refine .inl ⟨k + 1, ?_, hlt, by omega, rfl⟩
    simp (disch := omega) [round_eq, m9S, encFn, Try.f80, lv80, hlt, hltI, has _ l hlf, room_of, boolsOf_snoc, metOf_next, wrap_i64, -getElem?_pos, -List.contains_eq_mem]
  · have : k = f.blocks.length := by omega
    subst this
    refine .inr ⟨?_, nofun⟩
    simp (disch := omega) [round_eq, m9S, encFn, Try.f80, lv80, -getElem?_pos]

theorem met9 (h : Heap) (f : Fn) (ss : List (List Int)) (hs : ss.length = f.blocks.length) (h0 : 0 < ss.length) (but : Int) (hE : ss.length ≤ 1000) (hEl : ∀ l, l ∈ ss → l.length ≤ 100000 ∧ ∀ x, x ∈ l → 0 ≤ x ∧ x < ss.length) :
    ∃ m : List Bool, m.length = ss.length ∧ (∀ v, Mt m v ↔ Rch ss [0] but v) ∧ CX 80 [.agg (encFn f), Sl (listsOf ss), I but] h = some (Sl (boolsOf m), h, []) := by
  have hk : cfg.keep 80 = 0 := rfl
  by_cases hb : but = 0
  · obtain ⟨l', g1, g2, e1⟩ := m9_out h f ss but hE hEl [] ⟨by simp, fun v hv => by have := (metOf_mt.1 hv).2; simp at this, fun v hv => by have := (metOf_mt.1 hv).2; simp at this⟩ (fun x hx hn => by simp at hx; omega) (fun x hx => by simp at hx) (by
      have : unmet (metOf ss.length []) = ss.length := by
        have : metOf ss.length [] = List.replicate ss.length false := by
          apply List.ext_getElem?; intro i; simp [metOf]; simp [List.getElem?_replicate]; rcases Nat.lt_or_ge i ss.length with h | h <;> simp [h, Nat.not_lt.2]
        rw [this, unmet_all]
      simp; omega)
    have e2 := m9_last h f (by omega) ss but l' (by omega)
    refine ⟨metOf ss.length l', by simp, g1, CI_of Try.func80 rfl 0 ?_⟩
    subst hb
    rw [hs]
    simp [m9S, encFn, lpK, lv80, Try.f80] at e1 e2
    simp (disch := omega) [Try.f80, lv80, hk, encFn, e1, e2, wrap_i64, -getElem?_pos]
  · have hbI : (but != 0) = true := by simp [hb]
    have hr0 : Rch ss [0] but 0 := .start (by simp) (by omega)
    have hm0 : ∀ v : Nat, Mt (metOf ss.length [0]) v → v = 0 := fun v hv => by have := (metOf_mt.1 hv).2; simp at this; omega
    obtain ⟨l', g1, g2, e1⟩ := m9_out h f ss but hE hEl [0] ⟨by simp, fun v hv => by rw [hm0 v hv]; exact hr0, fun v hv => .inl (by rw [hm0 v hv]; simp)⟩ (fun x hx hn => hx) (fun x hx => by
        have : x = 0 := by simpa using hx
        subst this
        exact ⟨by omega, by omega, hr0⟩) (by
      have h1 : metOf ss.length [] = List.replicate ss.length false := by
        apply List.ext_getElem?; intro i; simp [metOf]; simp [List.getElem?_replicate]; rcases Nat.lt_or_ge i ss.length with h | h <;> simp [h, Nat.not_lt.2]
      have h2 := metOf_snoc (n := ss.length) (l := []) (b := 0) (by omega)
      have h3 := unmet_set (met := metOf ss.length []) (v := 0) (by rw [h1, List.getElem?_replicate, if_pos h0])
      rw [List.nil_append] at h2
      have h2' : metOf ss.length [0] = (metOf ss.length []).set 0 true := h2
      rw [← h2', h1, unmet_all] at h3
      simp only [List.length_cons, List.length_nil]
      omega)
    have e2 := m9_last h f (by omega) ss but l' (by omega)
    refine ⟨metOf ss.length l', by simp, g1, CI_of Try.func80 rfl 0 ?_⟩
    rw [hs]
    have hz : intsOf [0] = ([[Leaf.int .i64 0]] : List (List Leaf)) := rfl
    simp [m9S, encFn, lpK, lv80, Try.f80, hz] at e1 e2
    simp (disch := omega) [Try.f80, lv80, hk, encFn, hb, hbI, e1, e2, wrap_i64, room_of, -getElem?_pos]
end Go.Proofs.Ytdkknhpdjcdmfaa.Abs

/- Which blocks stand ahead of which, as the document tells it. -/
set_option linter.unusedSimpArgs false
set_option linter.unusedVariables false
namespace Go.Proofs.Ytdkknhpdjcdmfaa.Abs
open Go Go.RowKit Go.Proofs

def tabOf (rows : List (List Bool)) : List (List Leaf) := rows.map fun r => [.isl (boolsOf r)]
@[simp] theorem tabOf_length (rows : List (List Bool)) : (tabOf rows).length = rows.length := by simp [tabOf]
@[simp] theorem tabOf_nil : tabOf [] = [] := rfl
@[simp] theorem tabOf_get (rows : List (List Bool)) (i : Nat) : (tabOf rows)[i]? = (rows[i]?).map fun r => [.isl (boolsOf r)] := by simp [tabOf]
@[simp] theorem tabOf_plain (rows : List (List Bool)) : plainR (tabOf rows) = true := plainR_map (fun _ => rfl) rows
@[simp] theorem tabOf_tree (rows : List (List Bool)) : treeR (tabOf rows) = true := treeR_map (fun _ => rfl) rows
@[simp] theorem tabOf_sized (rows : List (List Bool)) : sized 1 (tabOf rows) = true := sized_map (n := 1) (f := fun r : List Bool => [Leaf.isl (boolsOf r)]) (fun _ => rfl) rows
theorem tabOf_snoc (rows : List (List Bool)) (r : List Bool) : tabOf rows ++ [[.isl (boolsOf r)]] = tabOf (rows ++ [r]) := by simp [tabOf]

def cellT (all wo : List Bool) (a b : Nat) : Bool := all.getD a false && (all.getD b false && (decide (a = b) || !(wo.getD b false)))
def rowT (all wo : List Bool) (a k : Nat) : List Bool := (List.range k).map (cellT all wo a)
@[simp] theorem rowT_length (all wo : List Bool) (a k : Nat) : (rowT all wo a k).length = k := by simp [rowT]
theorem rowT_next (all wo : List Bool) (a k : Nat) : rowT all wo a (k + 1) = rowT all wo a k ++ [cellT all wo a k] := by simp [rowT, List.range_succ]

def tbS (h : Heap) (f : Fn) (ss : List (List Int)) (all : List Bool) (a : Nat) (v9 : V) (o8 : Option (List Bool)) (v7 : V) (rows : List (List Bool)) : St :=
  ⟨[(1, .one (.ptr h.length 1 0 0)), (3, Sl (listsOf ss)), (6, I (a : Nat)), (9, v9), (8, blV (h.length + 1) o8), (4, Sl (boolsOf all)), (7, v7), (5, .one (.sl (h.length + 2) 1 rows.length 0 rows.length)), (1008, .junk), (1009, .junk), (1007, .junk)],
   h ++ [some (.row 5 [encFn f]), blO o8, some (.row 1 (tabOf rows))], []⟩

theorem tb_in (h : Heap) (f : Fn) (hn : f.blocks.length ≤ 1000) (ss : List (List Int)) (all wo : List Bool) (hal : all.length = f.blocks.length) (hwl : wo.length = f.blocks.length) (a : Nat) (ha : a < f.blocks.length) (rows : List (List Bool)) (hr : rows.length ≤ 1000) :
    lpK 33 Try.f33 63 1 h (tbS h f ss all a (I (0 : Nat)) (some []) (Sl (boolsOf wo)) rows) = some (.exit 2, tbS h f ss all a (I (f.blocks.length : Nat)) (some (rowT all wo a f.blocks.length)) (Sl (boolsOf wo)) rows) := by
  have key := loop_fun (P := Try.prog) (C := cfg) (sc := runScope Try.prog cfg 63 h.length (cfg.live 33) 0) (N := 63) (n0 := h.length) (K := cfg.live 33) (c := loopAt Try.f33 1)
    (fun k : Nat => tbS h f ss all a (I (k : Nat)) (some (rowT all wo a k)) (Sl (boolsOf wo)) rows) (fun k => k ≤ f.blocks.length) (fun k => f.blocks.length - k)
    (fun _ => (.exit 2, tbS h f ss all a (I (f.blocks.length : Nat)) (some (rowT all wo a f.blocks.length)) (Sl (boolsOf wo)) rows)) ?_ 0 (Nat.zero_le _)
  · exact key
  intro k hk
  obtain ⟨xa, hxa⟩ : ∃ x, all[a]? = some x := ⟨_, List.getElem?_eq_getElem (by omega)⟩
  rcases Nat.lt_or_ge k f.blocks.length with hlt | hge
  · have hltI : ((k : Nat) : Int) < ((f.blocks.length : Nat) : Int) := by omega
    obtain ⟨xb, hxb⟩ : ∃ x, all[k]? = some x := ⟨_, List.getElem?_eq_getElem (by omega)⟩
    obtain ⟨xw, hxw⟩ : ∃ x, wo[k]? = some x := ⟨_, List.getElem?_eq_getElem (by omega)⟩
    have hcell : cellT all wo a k = (xa && (xb && (decide (a = k) || !xw))) := by unfold cellT; simp only [List.getD, hxa, hxb, hxw, Option.getD_some]
    refine .inl ⟨k + 1, ?_, hlt, by omega, rfl⟩
    rw [rowT_next, hcell]
    by_cases hak : a = k
    · subst hak
      rw [hxa] at hxb; cases hxb
      cases xa <;> simp (disch := omega) [round_eq, tbS, encFn, Try.f33, lv33, hlt, hltI, hxa, hal, hwl, ha, room_of, boolsOf_snoc, wrap_i64, -getElem?_pos]
    · have hakI : (((a : Nat) : Int) == ((k : Nat) : Int)) = false := by simp; omega
      cases xa <;> cases xb <;> cases xw <;> simp (disch := omega) [round_eq, tbS, encFn, Try.f33, lv33, hlt, hltI, hxa, hxb, hxw, hal, hwl, ha, hak, hakI, room_of, boolsOf_snoc, wrap_i64, -getElem?_pos]
  · have : k = f.blocks.length := by omega
    subst this
    refine .inr ⟨?_, nofun⟩
    simp (disch := omega) [round_eq, tbS, encFn, Try.f33, lv33, -getElem?_pos]

def TRows (n : Nat) (ss : List (List Int)) (all : List Bool) (rows : List (List Bool)) : Prop :=
  ∀ (a : Nat) r, rows[a]? = some r → ∃ wo : List Bool, r = rowT all wo a n ∧ wo.length = n ∧ ∀ v, Mt wo v ↔ Rch ss [0] (a : Int) v

theorem tb_out (h : Heap) (f : Fn) (hn : f.blocks.length ≤ 1000) (ss : List (List Int)) (hs : ss.length = f.blocks.length) (h0 : 0 < ss.length) (hEl : ∀ l, l ∈ ss → l.length ≤ 100000 ∧ ∀ x, x ∈ l → 0 ≤ x ∧ x < ss.length) (all : List Bool) (hal : all.length = f.blocks.length) :
    ∃ rows, rows.length = f.blocks.length ∧ TRows f.blocks.length ss all rows ∧
    lpK 33 Try.f33 63 0 h (tbS h f ss all 0 .junk none .junk []) = some (.exit 0, tbS h f ss all f.blocks.length .junk none .junk rows) := by
  have key := loop_rel (P := Try.prog) (C := cfg) (sc := runScope Try.prog cfg 63 h.length (cfg.live 33) 0) (N := 63) (n0 := h.length) (K := cfg.live 33) (c := loopAt Try.f33 0)
    (fun rows : List (List Bool) => tbS h f ss all rows.length .junk none .junk rows) (fun rows => rows.length ≤ f.blocks.length ∧ TRows f.blocks.length ss all rows) (fun rows => f.blocks.length - rows.length)
    (fun _ r => ∃ rows, rows.length = f.blocks.length ∧ TRows f.blocks.length ss all rows ∧ r = (.exit 0, tbS h f ss all f.blocks.length .junk none .junk rows)) ?_ [] ⟨Nat.zero_le _, fun a r h => by simp at h⟩
  · obtain ⟨r, h1, rows, h2, h3, rfl⟩ := key
    exact ⟨rows, h2, h3, h1⟩
  rintro rows ⟨j1, j2⟩
  rcases Nat.lt_or_ge rows.length f.blocks.length with hlt | hge
  · have hltI : ((rows.length : Nat) : Int) < ((f.blocks.length : Nat) : Int) := by omega
    obtain ⟨wo, w1, w2, e1⟩ := met9 (h ++ [some (.row 5 [encFn f]), none, some (.row 1 (tabOf rows))]) f ss hs h0 (rows.length : Int) (by omega) hEl
    have e2 := tb_in h f hn ss all wo hal (by omega) rows.length hlt rows (by omega)
    refine .inl ⟨rows ++ [rowT all wo rows.length f.blocks.length], ?_, ⟨by simp; omega, fun a r hr => ?_⟩, by simp; omega, fun r h => h⟩
    · simp [encFn] at e1
      simp [tbS, encFn, lpK, lv33, Try.f33] at e2
      simp (disch := (first | omega | simp (disch := omega) [])) [round_eq, tbS, encFn, Try.f33, lv33, hlt, hltI, e1, e2, room_of, tabOf_snoc, wrap_i64, -getElem?_pos]
    · rcases Nat.lt_or_ge a rows.length with ha | ha
      · rw [List.getElem?_append_left ha] at hr
        exact j2 a r hr
      · have hal := (List.getElem?_eq_some_iff.1 hr).1
        simp at hal
        obtain rfl : a = rows.length := by omega
        simp at hr
        exact ⟨wo, hr.symm, by omega, w2⟩
  · have : rows.length = f.blocks.length := by omega
    refine .inr ⟨(.exit 0, tbS h f ss all f.blocks.length .junk none .junk rows), ?_, nofun, rows, this, j2, rfl⟩
    rw [this]
    simp (disch := omega) [round_eq, tbS, encFn, Try.f33, lv33, this, -getElem?_pos]

def TabG (n : Nat) (ss : List (List Int)) (rows : List (List Bool)) : Prop :=
  rows.length = n ∧ ∀ a, a < n → ∃ r, rows[a]? = some r ∧ r.length = n ∧ ∀ b, b < n → ∃ x, r[b]? = some x ∧ (x = true ↔ Rch ss [0] (-1) a ∧ Rch ss [0] (-1) b ∧ (a = b ∨ ¬ Rch ss [0] (a : Int) b))

theorem table (h : Heap) (f : Fn) (hf : f.Fine) (hn0 : 0 < f.blocks.length) : ∃ rows, TabG f.blocks.length (f.blocks.map nextB) rows ∧ CX 33 [.agg (encFn f)] h = some (Sl (tabOf rows), h, []) := by
  have hb := hf.len
  have hs : (f.blocks.map nextB).length = f.blocks.length := by simp
  have hEl : ∀ l, l ∈ f.blocks.map nextB → l.length ≤ 100000 ∧ ∀ x, x ∈ l → 0 ≤ x ∧ x < (f.blocks.map nextB).length := fun l hl => by
    have := hf.edges.each l hl
    exact ⟨by omega, this.2⟩
  have e1 := fun h => succs8 h f hf.ok hf.ended hb
  obtain ⟨all, a1, a2, e2⟩ := met9 (h ++ [some (.row 5 [encFn f])]) f (f.blocks.map nextB) hs (by omega) (-1) (by omega) hEl
  obtain ⟨rows, r1, r2, e3⟩ := tb_out h f hb (f.blocks.map nextB) hs (by omega) hEl all (by omega)
  refine ⟨rows, ⟨r1, fun a ha => ?_⟩, CI_of Try.func33 rfl 0 ?_⟩
  · obtain ⟨r, hr⟩ : ∃ r, rows[a]? = some r := ⟨_, List.getElem?_eq_getElem (by omega)⟩
    obtain ⟨wo, rfl, w1, w2⟩ := r2 a r hr
    refine ⟨_, hr, by simp, fun b hbn => ⟨cellT all wo a b, by simp [rowT, List.getElem?_range hbn], ?_⟩⟩
    have gD : ∀ (m : List Bool) (v : Nat), m.getD v false = true ↔ Mt m v := by
      intro m v
      unfold Mt
      rw [List.getD]
      cases m[v]? with
      | none => simp
      | some x => simp
    unfold cellT
    rw [Bool.and_eq_true, Bool.and_eq_true, gD, gD, a2, a2, Bool.or_eq_true, decide_eq_true_iff, Bool.not_eq_true', ← Bool.not_eq_true, gD, w2]
  · have hk : cfg.keep 33 = 0 := rfl
    simp [encFn] at e1 e2
    simp [tbS, encFn, lpK, lv33, Try.f33] at e3
    simp (disch := omega) [Try.f33, lv33, hk, encFn, e1, e2, e3, -getElem?_pos]

theorem ahead9 (h : Heap) (rows : List (List Bool)) (hrl : rows.length ≤ 1000) (a b : Nat) (r : List Bool) (x : Bool) (hr : rows[a]? = some r) (hx : r[b]? = some x) (hl : r.length = rows.length) : CX 35 [Sl (tabOf rows), I (a : Nat), I (b : Nat)] h = some (Bo x, h, []) := by
  have ha := (List.getElem?_eq_some_iff.1 hr).1
  have hb := (List.getElem?_eq_some_iff.1 hx).1
  have haI : ¬ ((rows.length : Nat) : Int) ≤ ((a : Nat) : Int) := by omega
  have hbI : ¬ ((rows.length : Nat) : Int) ≤ ((b : Nat) : Int) := by omega
  have haN : ¬ rows.length ≤ a := by omega
  have hbN : ¬ rows.length ≤ b := by omega
  have hbl : b < rows.length := by omega
  have ha0 : ¬ ((a : Nat) : Int) < 0 := by omega
  have hb0 : ¬ ((b : Nat) : Int) < 0 := by omega
  refine CI_of Try.func35 rfl 0 ?_
  have hk : cfg.keep 35 = 0 := rfl
  simp (disch := omega) [Try.f35, hk, hr, hx, ha, hb, ha0, hb0, hl, hbl, haI, hbI, haN, hbN, -getElem?_pos]
end Go.Proofs.Ytdkknhpdjcdmfaa.Abs
