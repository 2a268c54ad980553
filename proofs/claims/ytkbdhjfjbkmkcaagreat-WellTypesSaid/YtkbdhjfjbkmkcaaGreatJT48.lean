/- The abstract machine, told anew for the kernel: what is carried round loops is put in order, what a call hands back is told as trees. -/
import Derived.Test.YtkbdhjfjbkmkcaaGreatJT47
set_option linter.unusedSimpArgs false
set_option linter.unusedVariables false
namespace Go.Proofs.YtkbdhjfjbkmkcaaGreat.Abs.Fast
open Go Go.RowKit

noncomputable def mapLK {α β : Type} (f : α → (β → RR) → RR) : List α → (List β → RR) → RR := @List.rec α (fun _ => (List β → RR) → RR) (fun k => k []) (fun x _ ih k => f x fun y => ih fun ys => k (y :: ys))
theorem mapLK_hands {α β : Type} {g : α → Option β} {f : α → (β → RR) → RR} (hf : ∀ x, Hands (g x) (f x)) : ∀ l, Hands (mapO g l) (mapLK f l)
  | [] => fun k r e => ⟨[], rfl, e⟩
  | x :: xs => fun k r e => by
    obtain ⟨y, h1, h2⟩ := hf x _ _ e
    obtain ⟨ys, h3, h4⟩ := mapLK_hands hf xs _ _ h2
    exact ⟨y :: ys, by simp [mapO, h1, h3], h4⟩
noncomputable def placeF (id : Nat) (L : List (Option Nat)) (p : Nat) : Option Nat := @List.rec (Option Nat) (fun _ => Nat → Option Nat) (fun _ => none)
  (fun o _ ih p => @Option.rec Nat (fun _ => Option Nat) (ih (Nat.succ p)) (fun k => @Bool.rec (fun _ => Option Nat) (ih (Nat.succ p)) (some p) (Nat.beq k id)) o) L p
theorem placeF_eq (id : Nat) : ∀ (L : List (Option Nat)) (p : Nat), placeF id L p = placeAt id L p
  | [], p => rfl
  | none :: L, p => placeF_eq id L (p + 1)
  | some k :: L, p => by
    show @Bool.rec (fun _ => Option Nat) (placeF id L (Nat.succ p)) (some p) (Nat.beq k id) = _
    unfold placeAt
    simp only
    cases h : Nat.beq k id with
    | true => rw [if_pos (Nat.eq_of_beq_eq_true h)]
    | false => rw [if_neg (Nat.ne_of_beq_eq_false h)]; exact placeF_eq id L (p + 1)
noncomputable def whereK (n0 : Nat) (L : List (Option Nat)) (id : Nat) (stay : RR) (kept : Nat → RR) (go : RR) : RR := @Bool.rec (fun _ => RR) (@Option.rec Nat (fun _ => RR) go (fun p => natK (Nat.add n0 p) kept) (placeF id L 0)) stay (Nat.ble (Nat.succ id) n0)
theorem whereK_some {n0 : Nat} {L : List (Option Nat)} {id : Nat} {stay : RR} {kept : Nat → RR} {go : RR} {r} (e : whereK n0 L id stay kept go = some r) :
    (id < n0 ∧ stay = some r) ∨ (¬ id < n0 ∧ ∃ p, placeOf id L n0 = some p ∧ kept p = some r) ∨ (¬ id < n0 ∧ placeOf id L n0 = none ∧ goes n0 L id = true ∧ go = some r) := by
  unfold whereK at e
  cases h : Nat.ble (Nat.succ id) n0 with
  | true => rw [h] at e; exact .inl ⟨ble_l h, e⟩
  | false =>
    rw [h] at e
    have hn : ¬ id < n0 := fun hh => by rw [ble_t hh] at h; cases h
    rw [placeF_eq] at e
    cases hp : placeAt id L 0 with
    | none =>
      rw [hp] at e
      have h2 : placeOf id L n0 = none := by simp [placeOf, hp]
      exact .inr (.inr ⟨hn, h2, by simp [goes, h2]; omega, e⟩)
    | some p =>
      rw [hp] at e
      have e' : natK (Nat.add n0 p) kept = some r := e
      rw [natK_eq] at e'
      exact .inr (.inl ⟨hn, n0 + p, by simp [placeOf, hp], e'⟩)

section
variable (h : Heap) (n0 : Nat) (L : List (Option Nat))
noncomputable def fzLK : Nat → Leaf → (Leaf → RR) → RR := @Nat.rec (fun _ => Leaf → (Leaf → RR) → RR) (fun _ _ => none) fun n ih l k =>
  lK l (fun b => k (.bool b)) (fun j n => k (.int j n)) (fun s => k (.str s)) (k .nilp) (fun id sz i off => iteK (goes n0 L id) (rowK h id sz fun _ es => nthK es i fun cs => mapLK ih cs fun cs => k (.iptr cs off)) none) (fun cs off => k (.iptr cs off))
    (k (.isl [])) (k (.isl [])) (fun id esz sz off len => iteK (goes n0 L id) (rowK h id sz fun z es => iteK (Nat.beq z esz) (iteK (Nat.ble (Nat.add off len) sz) (mapLK (mapLK ih) ((es.drop off).take len) fun es => k (.isl es)) none) none) none)
    (fun es => k (.isl es)) (k .nilm) (fun id => optK (fzL h n0 L (Nat.succ n) (.map id)) fun l => leafK l k) (k .nilf) (fun f caps => mapLK ih caps fun caps => k (.fn f caps)) none (fun ks g rs => k (.imap ks g rs))
theorem fzLK_hands : ∀ (n : Nat) (l : Leaf), Hands (fzL h n0 L n l) (fzLK h n0 L n l)
  | 0, l => fun k r e => by cases e
  | n + 1, l => fun k r e => by
    unfold fzL
    cases l with
    | ptr id sz i off =>
      obtain ⟨h1, e⟩ := iteK_some e
      obtain ⟨z, es, h2, e⟩ := rowK_some e
      obtain ⟨cs, h3, e⟩ := nthK_hands _ _ _ _ e
      obtain ⟨ds, h4, e⟩ := mapLK_hands (fzLK_hands n) cs _ _ e
      exact ⟨_, by simp only [h1, if_true, h2, h3, h4]; rfl, e⟩
    | sl id esz sz off len =>
      obtain ⟨h1, e⟩ := iteK_some e
      obtain ⟨z, es, h2, e⟩ := rowK_some e
      obtain ⟨h3, e⟩ := iteK_some e
      obtain ⟨h4, e⟩ := iteK_some e
      have h3 := Nat.eq_of_beq_eq_true h3
      have h4 : off + len ≤ sz := ble_l h4
      obtain ⟨ds, h5, e⟩ := mapLK_hands (fun cs => mapLK_hands (fzLK_hands n) cs) _ _ _ e
      refine ⟨_, ?_, e⟩
      simp only [h1, if_true, h2]
      rw [if_pos ⟨h3, h4⟩, h5]; rfl
    | fn f caps =>
      obtain ⟨ds, h4, e⟩ := mapLK_hands (fzLK_hands n) caps _ _ e
      exact ⟨_, by simp only [h4]; rfl, e⟩
    | map id =>
      obtain ⟨a, h1, e⟩ := optK_hands _ _ _ e
      rw [leafK_eq] at e
      exact ⟨a, by rw [← h1]; rfl, e⟩
    | junk => cases e
    | _ => exact ⟨_, rfl, e⟩
noncomputable def fzRK (l : Leaf) (k : Leaf → RR) : RR :=
  lK l (fun b => k (.bool b)) (fun j n => k (.int j n)) (fun s => k (.str s)) (k .nilp) (fun id sz i off => whereK n0 L id (k (.ptr id sz i off)) (fun p => k (.ptr p sz i off)) (fzLK h n0 L 40 (.ptr id sz i off) k)) (fun cs off => k (.iptr cs off))
    (k .nils) (k .zsl) (fun id esz sz off len => whereK n0 L id (k (.sl id esz sz off len)) (fun p => k (.sl p esz sz off len)) (fzLK h n0 L 40 (.sl id esz sz off len) k))
    (fun es => k (.isl es)) (k .nilm) (fun id => whereK n0 L id (k (.map id)) (fun p => k (.map p)) (fzLK h n0 L 40 (.map id) k)) (k .nilf) (fun f caps => mapLK (fzLK h n0 L 39) caps fun caps => k (.fn f caps)) (k .junk) (fun ks g rs => k (.imap ks g rs))
theorem fzRK_hands (l : Leaf) : Hands (fzR h n0 L l) (fzRK h n0 L l) := fun k r e => by
  unfold fzR
  cases l with
  | ptr id sz i off =>
    rcases whereK_some e with ⟨h1, e⟩ | ⟨h1, p, h2, e⟩ | ⟨h1, h2, h3, e⟩
    · exact ⟨_, by simp [stays, h1], e⟩
    · exact ⟨_, by simp [stays, h1, refId, h2, toId], e⟩
    · obtain ⟨a, h4, e⟩ := fzLK_hands h n0 L 40 _ _ _ e
      exact ⟨a, by simp [stays, h1, refId, h2, h4], e⟩
  | sl id esz sz off len =>
    rcases whereK_some e with ⟨h1, e⟩ | ⟨h1, p, h2, e⟩ | ⟨h1, h2, h3, e⟩
    · exact ⟨_, by simp [stays, h1], e⟩
    · exact ⟨_, by simp [stays, h1, refId, h2, toId], e⟩
    · obtain ⟨a, h4, e⟩ := fzLK_hands h n0 L 40 _ _ _ e
      exact ⟨a, by simp [stays, h1, refId, h2, h4], e⟩
  | map id =>
    rcases whereK_some e with ⟨h1, e⟩ | ⟨h1, p, h2, e⟩ | ⟨h1, h2, h3, e⟩
    · exact ⟨_, by simp [stays, h1], e⟩
    · exact ⟨_, by simp [stays, h1, refId, h2, toId], e⟩
    · obtain ⟨a, h4, e⟩ := fzLK_hands h n0 L 40 _ _ _ e
      exact ⟨a, by simp [stays, h1, refId, h2, h4], e⟩
  | fn f caps =>
    obtain ⟨ds, h4, e⟩ := mapLK_hands (fzLK_hands h n0 L 39) caps _ _ e
    have h5 : fzL h n0 L 40 (.fn f caps) = (mapO (fzL h n0 L 39) caps).map (.fn f) := rfl
    exact ⟨_, by simp only [stays, refId, h5, h4]; rfl, e⟩
  | _ => exact ⟨_, rfl, e⟩
noncomputable def fzTK (l : Leaf) (k : Leaf → RR) : RR :=
  lK l (fun b => k (.bool b)) (fun j n => k (.int j n)) (fun s => k (.str s)) (k .nilp) (fun id sz i off => whereK n0 L id (k (.ptr id sz i off)) (fun p => k (.ptr p sz i off)) (fzLK h n0 L 40 (.ptr id sz i off) k)) (fun cs off => k (.iptr cs off))
    (k .nils) (k .zsl) (fun id esz sz off len => whereK n0 L id (k (.sl id esz sz off len)) (fun p => k (.sl p esz sz off len)) (fzLK h n0 L 40 (.sl id esz sz off len) k))
    (fun es => k (.isl es)) (k .nilm) (fun id => whereK n0 L id (k (.map id)) (fun p => k (.map p)) (fzLK h n0 L 40 (.map id) k)) (k .nilf) (fun f caps => mapLK (fzRK h n0 L) caps fun caps => k (.fn f caps)) (k .junk) (fun ks g rs => k (.imap ks g rs))
theorem fzTK_hands (l : Leaf) : Hands (fzT h n0 L l) (fzTK h n0 L l) := fun k r e => by
  cases l with
  | fn f caps =>
    obtain ⟨ds, h4, e⟩ := mapLK_hands (fzRK_hands h n0 L) caps _ _ e
    exact ⟨_, by simp [fzT, h4], e⟩
  | _ => exact fzRK_hands h n0 L _ k r e
noncomputable def fzV0K (v : V) (k : V → RR) : RR := vK v (k .junk) (fun l => fzTK h n0 L l fun l => k (.one l)) (fun cs => mapLK (fzTK h n0 L) cs fun cs => k (.agg cs)) (fun _ => none)
theorem fzV0K_hands (v : V) : Hands (fzV0 h n0 L v) (fzV0K h n0 L v) := fun k r e => by
  cases v with
  | junk => exact ⟨_, rfl, e⟩
  | one l =>
    have e1 : (fzTK h n0 L l fun l => k (.one l)) = some r := e
    obtain ⟨a, h1, e2⟩ := fzTK_hands h n0 L l _ _ e1
    exact ⟨_, by simp [fzV0, h1], e2⟩
  | agg cs =>
    have e1 : (mapLK (fzTK h n0 L) cs fun cs => k (.agg cs)) = some r := e
    obtain ⟨a, h1, e2⟩ := mapLK_hands (fzTK_hands h n0 L) cs _ _ e1
    exact ⟨_, by simp [fzV0, h1], e2⟩
  | tup vs => cases e
noncomputable def fzVK (v : V) (k : V → RR) : RR := vK v (k .junk) (fun l => fzTK h n0 L l fun l => k (.one l)) (fun cs => mapLK (fzTK h n0 L) cs fun cs => k (.agg cs)) (fun vs => mapLK (fzV0K h n0 L) vs fun vs => k (.tup vs))
theorem fzVK_hands (v : V) : Hands (fzV h n0 L v) (fzVK h n0 L v) := fun k r e => by
  cases v with
  | tup vs =>
    have e1 : (mapLK (fzV0K h n0 L) vs fun vs => k (.tup vs)) = some r := e
    obtain ⟨a, h1, e2⟩ := mapLK_hands (fzV0K_hands h n0 L) vs _ _ e1
    exact ⟨_, by simp [fzV, h1], e2⟩
  | junk => exact fzV0K_hands h n0 L .junk k r (show fzV0K h n0 L .junk k = some r from e)
  | one l => exact fzV0K_hands h n0 L (.one l) k r (show fzV0K h n0 L (.one l) k = some r from e)
  | agg cs => exact fzV0K_hands h n0 L (.agg cs) k r (show fzV0K h n0 L (.agg cs) k = some r from e)
end

/-! Cells that are told alike wherever they stand. -/
noncomputable def plainF (l : Leaf) : Bool :=
  @Leaf.rec (fun _ => Bool) (fun _ => Unit) (fun _ => Unit) (fun _ => true) (fun _ _ => true) (fun _ => true) true (fun _ _ _ _ => false) (fun _ _ _ => true) true true (fun _ _ _ _ _ => false) (fun _ _ => true) true (fun _ => false) true (fun _ _ _ => false) true (fun _ _ _ _ _ => true) () (fun _ _ _ _ => ()) () (fun _ _ _ _ => ()) l
noncomputable def plainsF (l : List Leaf) : Bool := @List.rec Leaf (fun _ => Bool) true (fun x _ ih => @Bool.rec (fun _ => Bool) false ih (plainF x)) l
noncomputable def plainrF (l : List (List Leaf)) : Bool := @List.rec (List Leaf) (fun _ => Bool) true (fun x _ ih => @Bool.rec (fun _ => Bool) false ih (plainsF x)) l
theorem plainF_fz {h : Heap} {n0 : Nat} {L : List (Option Nat)} {l : Leaf} (e : plainF l = true) : fzT h n0 L l = some l := by
  cases l <;> first | rfl | cases e
theorem plainsF_fz {h : Heap} {n0 : Nat} {L : List (Option Nat)} : ∀ {l : List Leaf}, plainsF l = true → mapO (fzT h n0 L) l = some l
  | [], _ => rfl
  | x :: xs, e => by
    have e' : @Bool.rec (fun _ => Bool) false (plainsF xs) (plainF x) = true := e
    cases hx : plainF x with
    | false => rw [hx] at e'; cases e'
    | true => rw [hx] at e'; simp [mapO, plainF_fz hx, plainsF_fz e']
theorem plainrF_fz {h : Heap} {n0 : Nat} {L : List (Option Nat)} : ∀ {l : List (List Leaf)}, plainrF l = true → mapO (mapO (fzT h n0 L)) l = some l
  | [], _ => rfl
  | x :: xs, e => by
    have e' : @Bool.rec (fun _ => Bool) false (plainrF xs) (plainsF x) = true := e
    cases hx : plainsF x with
    | false => rw [hx] at e'; cases e'
    | true => rw [hx] at e'; simp [mapO, plainsF_fz hx, plainrF_fz e']

section
variable (h : Heap) (n0 : Nat) (L : List (Option Nat))
noncomputable def fzEK (x : Leaf × V × Nat) (k : Leaf × V × Nat → RR) : RR := fzTK h n0 L x.1 fun a => fzV0K h n0 L x.2.1 fun b => k (a, b, x.2.2)
theorem fzEK_hands (x : Leaf × V × Nat) : Hands (fzE h n0 L x) (fzEK h n0 L x) := fun k r e => by
  obtain ⟨a, h1, e⟩ := fzTK_hands h n0 L _ _ _ e
  obtain ⟨b, h2, e⟩ := fzV0K_hands h n0 L _ _ _ e
  exact ⟨_, by simp only [fzE, h1, h2], e⟩
noncomputable def fzOK (o : AO) (k : AO → RR) : RR := @AO.rec (fun _ => RR) (fun z es => @Bool.rec (fun _ => RR) (mapLK (mapLK (fzTK h n0 L)) es fun es => k (.row z es)) (k (.row z es)) (plainrF es)) (fun c es => mapLK (fzEK h n0 L) es fun es => k (.mp c es)) o
theorem fzOK_hands (o : AO) : Hands (fzO h n0 L o) (fzOK h n0 L o) := fun k r e => by
  cases o with
  | row z es =>
    have e' : @Bool.rec (fun _ => RR) (mapLK (mapLK (fzTK h n0 L)) es fun es => k (.row z es)) (k (.row z es)) (plainrF es) = some r := e
    cases hp : plainrF es with
    | true => rw [hp] at e'; exact ⟨_, by simp [fzO, plainrF_fz hp], e'⟩
    | false =>
      rw [hp] at e'
      obtain ⟨a, h1, e2⟩ := mapLK_hands (fun cs => mapLK_hands (fzTK_hands h n0 L) cs) es _ _ e'
      exact ⟨_, by simp [fzO, h1], e2⟩
  | mp c es =>
    obtain ⟨a, h1, e⟩ := mapLK_hands (fzEK_hands h n0 L) es _ _ e
    exact ⟨_, by simp [fzO, h1], e⟩
noncomputable def fzHK : List Nat → Heap → (Heap → RR) → RR := @List.rec Nat (fun _ => Heap → (Heap → RR) → RR) (fun acc k => k acc)
  (fun id _ ih acc k => nthK h id fun o => optK o fun o => fzOK h n0 L o fun o => modK acc id (fun _ kk => kk (some o)) fun acc => ih acc k)
theorem fzHK_hands : ∀ (ids : List Nat) (acc : Heap), Hands (fzH h n0 L ids acc) (fzHK h n0 L ids acc)
  | [], acc => fun k r e => ⟨_, rfl, e⟩
  | id :: ids, acc => fun k r e => by
    have e0 : (nthK h id fun o => optK o fun o => fzOK h n0 L o fun o => modK acc id (fun _ kk => kk (some o)) fun acc => fzHK h n0 L ids acc k) = some r := e
    obtain ⟨o, h1, e1⟩ := nthK_hands _ _ _ _ e0
    obtain ⟨a, h2, e2⟩ := optK_hands _ _ _ e1
    rw [h2] at h1
    obtain ⟨b, h3, e3⟩ := fzOK_hands h n0 L _ _ _ e2
    obtain ⟨x, h4, e4⟩ := modK_some (fun _ kk => kk (some b)) _ _ _ _ e3
    obtain ⟨c, h5, e5⟩ := fzHK_hands ids (acc.set id (some b)) _ _ e4
    exact ⟨c, by simp only [fzH, h1, h3]; exact h5, e5⟩
noncomputable def objOfK (o : Option Nat) (k : Option AO → RR) : RR := @Option.rec Nat (fun _ => RR) (k none) (fun id => nthK h id fun o => optK o fun o => fzOK h n0 L o fun o => k (some o)) o
theorem objOfK_hands (o : Option Nat) : Hands (objOf h n0 L o) (objOfK h n0 L o) := fun k r e => by
  cases o with
  | none => exact ⟨_, rfl, e⟩
  | some id =>
    have e0 : (nthK h id fun o => optK o fun o => fzOK h n0 L o fun o => k (some o)) = some r := e
    obtain ⟨o, h1, e1⟩ := nthK_hands _ _ _ _ e0
    obtain ⟨a, h2, e2⟩ := optK_hands _ _ _ e1
    rw [h2] at h1
    obtain ⟨b, h3, e3⟩ := fzOK_hands h n0 L _ _ _ e2
    exact ⟨some b, by simp only [objOf, h1, h3], e3⟩
end

/-! What is kept. -/
noncomputable def contF (id : Nat) (r : List (Option Nat)) : Bool := @List.rec (Option Nat) (fun _ => Bool) false (fun o _ ih => @Option.rec Nat (fun _ => Bool) ih (fun k => @Bool.rec (fun _ => Bool) ih true (Nat.beq k id)) o) r
theorem contF_eq (id : Nat) : ∀ (r : List (Option Nat)), contF id r = r.contains (some id)
  | [] => rfl
  | none :: r => by
    show contF id r = _
    rw [contF_eq id r]; simp
  | some k :: r => by
    show @Bool.rec (fun _ => Bool) (contF id r) true (Nat.beq k id) = _
    rw [contF_eq id r]
    cases h : Nat.beq k id with
    | true => simp [Nat.eq_of_beq_eq_true h]
    | false =>
      have := Nat.ne_of_beq_eq_false h
      rw [Bool.eq_iff_iff]
      simp [Ne.symm this]
noncomputable def okLF (n0 : Nat) (L : List (Option Nat)) : Bool := @List.rec (Option Nat) (fun _ => Bool) true (fun o r ih => @Option.rec Nat (fun _ => Bool) ih (fun id => @Bool.rec (fun _ => Bool) false (@Bool.rec (fun _ => Bool) ih false (contF id r)) (Nat.ble n0 id)) o) L
theorem okLF_some {n0 : Nat} : ∀ {L : List (Option Nat)}, okLF n0 L = true → okL n0 L = true
  | [], _ => rfl
  | none :: L, e => okLF_some (L := L) e
  | some id :: L, e => by
    have e' : @Bool.rec (fun _ => Bool) false (@Bool.rec (fun _ => Bool) (okLF n0 L) false (contF id L)) (Nat.ble n0 id) = true := e
    cases h1 : Nat.ble n0 id with
    | false => rw [h1] at e'; cases e'
    | true =>
      rw [h1] at e'
      cases h2 : contF id L with
      | true => rw [h2] at e'; cases e'
      | false =>
        rw [h2] at e'
        rw [contF_eq] at h2
        unfold okL
        rw [okLF_some e', h2, decide_eq_true (ble_l h1)]; rfl
noncomputable def ownK (n0 id : Nat) (k : Option Nat → RR) : RR := @Bool.rec (fun _ => RR) (k none) (k (some id)) (Nat.ble n0 id)
theorem ownK_eq (n0 id : Nat) (k : Option Nat → RR) : ownK n0 id k = k (if n0 ≤ id then some id else none) := by
  unfold ownK
  cases h : Nat.ble n0 id with
  | true => rw [if_pos (ble_l h)]
  | false => rw [if_neg fun hh => by rw [ble_t hh] at h; cases h]
noncomputable def rootK (n0 : Nat) (v : V) (k : Option Nat → RR) : RR := vK v (k none) (fun l => lK l (fun _ => k none) (fun _ _ => k none) (fun _ => k none) (k none) (fun id _ _ _ => ownK n0 id k) (fun _ _ => k none) (k none) (k none) (fun id _ _ _ _ => ownK n0 id k) (fun _ => k none) (k none) (fun id => ownK n0 id k) (k none) (fun _ _ => k none) (k none) (fun _ _ _ => k none)) (fun _ => k none) (fun _ => k none)
theorem rootK_eq (n0 : Nat) (v : V) (k : Option Nat → RR) : rootK n0 v k = k (rootOf n0 v) := by
  cases v with
  | one l => cases l <;> first | rfl | exact ownK_eq n0 _ k
  | _ => rfl
noncomputable def idsK : List (Option Nat) → (List (Option Nat) → RR) → RR := @List.rec (Option Nat) (fun _ => (List (Option Nat) → RR) → RR) (fun k => k []) (fun x _ ih k => @Option.rec Nat (fun _ => RR) (ih fun xs => k (none :: xs)) (fun n => natK n fun n => ih fun xs => k (some n :: xs)) x)
theorem idsK_eq : ∀ (l : List (Option Nat)) (k : List (Option Nat) → RR), idsK l k = k l
  | [], k => rfl
  | none :: xs, k => by
    show (idsK xs fun xs => k (none :: xs)) = _
    rw [idsK_eq xs]
  | some n :: xs, k => by
    show (natK n fun n => idsK xs fun xs => k (some n :: xs)) = _
    rw [natK_eq, idsK_eq xs]
noncomputable def appIK : List (Option Nat) → List (Option Nat) → (List (Option Nat) → RR) → RR := @List.rec (Option Nat) (fun _ => List (Option Nat) → (List (Option Nat) → RR) → RR) (fun b k => k b) (fun x _ ih b k => ih b fun r => k (x :: r))
theorem appIK_eq : ∀ (a b : List (Option Nat)) (k : List (Option Nat) → RR), appIK a b k = k (a ++ b)
  | [], b, k => rfl
  | x :: xs, b, k => by
    show (appIK xs b fun r => k (x :: r)) = _
    rw [appIK_eq xs]; rfl
noncomputable def kdIdsK (h : Heap) (n0 : Nat) (v : V) (d : Kd) (k : List (Option Nat) → RR) : RR := @Kd.rec (fun _ => RR) (k []) (fun e ks => @List.rec Nat (fun _ => RR) (rootK n0 v fun o => k [o]) (fun a b _ => idsK (kdIds h n0 v (.s e (a :: b))) k) ks)
  (fun ks => @List.rec Nat (fun _ => RR) (rootK n0 v fun o => k [o]) (fun a b _ => idsK (kdIds h n0 v (.b (a :: b))) k) ks) (rootK n0 v fun o => k [o]) (fun kss => idsK (kdIds h n0 v (.b2 kss)) k) (fun _ => k []) (fun _ => k []) (fun _ => k []) d
theorem kdIdsK_eq (h : Heap) (n0 : Nat) (v : V) (d : Kd) (k : List (Option Nat) → RR) : kdIdsK h n0 v d k = k (kdIds h n0 v d) := by
  cases d with
  | s e ks =>
    cases ks with
    | nil => exact rootK_eq n0 v fun o => k [o]
    | cons a b => exact idsK_eq (kdIds h n0 v (.s e (a :: b))) k
  | b ks =>
    cases ks with
    | nil => exact rootK_eq n0 v fun o => k [o]
    | cons a b => exact idsK_eq (kdIds h n0 v (.b (a :: b))) k
  | m => exact rootK_eq n0 v fun o => k [o]
  | b2 kss => exact idsK_eq (kdIds h n0 v (.b2 kss)) k
  | _ => rfl
noncomputable def kdLK (h : Heap) (n0 : Nat) (t : Tmps) : List (Nat × Kd) → (List (Option Nat) → RR) → RR := @List.rec (Nat × Kd) (fun _ => (List (Option Nat) → RR) → RR) (fun k => k []) (fun e _ ih k => kdIdsK h n0 (tgetF t e.1) e.2 fun a => ih fun b => appIK a b k)
theorem kdLK_eq (h : Heap) (n0 : Nat) (t : Tmps) : ∀ (K : List (Nat × Kd)) (k : List (Option Nat) → RR), kdLK h n0 t K k = k (kdL h n0 t K)
  | [], k => rfl
  | e :: K, k => by
    show (kdIdsK h n0 (tgetF t e.1) e.2 fun a => kdLK h n0 t K fun b => appIK a b k) = _
    rw [kdIdsK_eq, kdLK_eq h n0 t K, appIK_eq, tgetF_eq]; rfl
noncomputable def appHH : Heap → Heap → (Heap → RR) → RR := @List.rec (Option AO) (fun _ => Heap → (Heap → RR) → RR) (fun b k => k b) (fun x _ ih b k => ih b fun r => k (x :: r))
theorem appHH_eq : ∀ (a b : Heap) (k : Heap → RR), appHH a b k = k (a ++ b)
  | [], b, k => rfl
  | x :: xs, b, k => by
    show (appHH xs b fun r => k (x :: r)) = _
    rw [appHH_eq xs]; rfl
noncomputable def takeHK : Heap → Nat → (Heap → RR) → RR := @List.rec (Option AO) (fun _ => Nat → (Heap → RR) → RR) (fun _ k => k []) (fun x _ ih n k => @Nat.rec (fun _ => RR) (k []) (fun p _ => ih p fun r => k (x :: r)) n)
theorem takeHK_eq : ∀ (h : Heap) (n : Nat) (k : Heap → RR), takeHK h n k = k (h.take n)
  | [], n, k => by cases n <;> rfl
  | x :: xs, 0, k => rfl
  | x :: xs, n + 1, k => by
    show (takeHK xs n fun r => k (x :: r)) = _
    rw [takeHK_eq xs]; rfl
section
variable (h : Heap) (n0 : Nat) (L : List (Option Nat))
noncomputable def newRootK (p : Nat) (ks : List Nat) (o : Option Nat) (k : Heap → RR) : RR := @Option.rec Nat (fun _ => RR) (k [none]) (fun id => @List.rec Nat (fun _ => RR) (objOfK h n0 L (some id) fun o => k [o]) (fun a b _ => optK (newRoot h n0 L p (a :: b) (some id)) fun H => heapK H k) ks) o
theorem newRootK_hands (p : Nat) (ks : List Nat) (o : Option Nat) : Hands (newRoot h n0 L p ks o) (newRootK h n0 L p ks o) := fun k r e => by
  cases o with
  | none => exact ⟨_, rfl, e⟩
  | some id =>
    cases ks with
    | nil =>
      have e0 : (objOfK h n0 L (some id) fun o => k [o]) = some r := e
      obtain ⟨o, h1, e1⟩ := objOfK_hands h n0 L _ _ _ e0
      exact ⟨[o], by simp only [newRoot, h1], e1⟩
    | cons a b =>
      obtain ⟨H, h1, e⟩ := optK_hands _ _ _ e
      rw [heapK_eq] at e
      exact ⟨_, h1, e⟩
abbrev KV := V → Heap → RR
noncomputable def nilsF (v : V) : Bool := @V.rec (fun _ => Bool) (fun _ => Unit) false (fun l => @Leaf.rec (fun _ => Bool) (fun _ => Unit) (fun _ => Unit) (fun _ => false) (fun _ _ => false) (fun _ => false) false (fun _ _ _ _ => false) (fun _ _ _ => false) true false (fun _ _ _ _ _ => false) (fun _ _ => false) false (fun _ => false) false (fun _ _ _ => false) false (fun _ _ _ _ _ => false) () (fun _ _ _ _ => ()) () (fun _ _ _ _ => ()) l) (fun _ => false) (fun _ _ => false) () (fun _ _ _ _ => ()) v
theorem nilsF_t {v : V} (e : nilsF v = true) : v = .one .nils := by
  cases v with
  | one l => cases l <;> first | rfl | cases e
  | _ => cases e
theorem nilsF_f {v : V} (e : nilsF v = false) : v ≠ .one .nils := by
  rintro rfl; cases e
noncomputable def kdNewK (p : Nat) (v : V) (d : Kd) (k : KV) : RR := @Kd.rec (fun _ => RR) (fzVK h n0 L v fun v => k v []) (fun e ks => @Bool.rec (fun _ => RR) (fzVK h n0 L v fun v' => rootK n0 v fun o => newRootK h n0 L p ks o fun H => k v' H) (natK (Nat.add n0 p) fun q => k (.one (.sl q e 0 0 0)) [some (.row e [])]) (nilsF v))
  (fun ks => fzVK h n0 L v fun v' => rootK n0 v fun o => newRootK h n0 L p ks o fun H => k v' H) (fzVK h n0 L v fun v' => rootK n0 v fun o => newRootK h n0 L p [] o fun H => k v' H)
  (fun kss => @Option.rec (V × Heap) (fun _ => RR) none (fun q => v3K q.1 fun v => heapK q.2 fun H => k v H) (kdNew h n0 L p v (.b2 kss))) (fun _ => fzVK h n0 L v fun v => k v []) (fun _ => k .junk []) (fun _ => k .junk []) d
theorem kdNewK_some {p : Nat} {v : V} {d : Kd} {k : KV} {r} (e : kdNewK h n0 L p v d k = some r) : ∃ v' H, kdNew h n0 L p v d = some (v', H) ∧ k v' H = some r := by
  have two : ∀ {ks : List Nat}, (fzVK h n0 L v fun v' => rootK n0 v fun o => newRootK h n0 L p ks o fun H => k v' H) = some r → ∃ v' H, fzV h n0 L v = some v' ∧ newRoot h n0 L p ks (rootOf n0 v) = some H ∧ k v' H = some r := fun e => by
    obtain ⟨v', h1, e⟩ := fzVK_hands h n0 L v _ _ e
    rw [rootK_eq] at e
    obtain ⟨H, h2, e⟩ := newRootK_hands h n0 L _ _ _ _ _ e
    exact ⟨_, _, h1, h2, e⟩
  cases d with
  | p =>
    have e0 : (fzVK h n0 L v fun v => k v []) = some r := e
    obtain ⟨v', h1, e1⟩ := fzVK_hands h n0 L v _ _ e0
    exact ⟨v', [], by simp only [kdNew, h1], e1⟩
  | r i =>
    have e0 : (fzVK h n0 L v fun v => k v []) = some r := e
    obtain ⟨v', h1, e1⟩ := fzVK_hands h n0 L v _ _ e0
    exact ⟨v', [], by simp only [kdNew, h1], e1⟩
  | x i => exact ⟨_, _, rfl, e⟩
  | it b => exact ⟨_, _, rfl, e⟩
  | m =>
    obtain ⟨v', H, h1, h2, e⟩ := two e
    exact ⟨_, _, by simp [kdNew, h1, h2], e⟩
  | b ks =>
    obtain ⟨v', H, h1, h2, e⟩ := two e
    exact ⟨_, _, by simp [kdNew, h1, h2], e⟩
  | s z ks =>
    have e' : @Bool.rec (fun _ => RR) (fzVK h n0 L v fun v' => rootK n0 v fun o => newRootK h n0 L p ks o fun H => k v' H) (natK (Nat.add n0 p) fun q => k (.one (.sl q z 0 0 0)) [some (.row z [])]) (nilsF v) = some r := e
    cases hn : nilsF v with
    | true =>
      rw [hn] at e'
      obtain rfl := nilsF_t hn
      have e2 : natK (Nat.add n0 p) (fun q => k (.one (.sl q z 0 0 0)) [some (.row z [])]) = some r := e'
      rw [natK_eq] at e2
      exact ⟨_, _, rfl, e2⟩
    | false =>
      rw [hn] at e'
      obtain ⟨v', H, h1, h2, e⟩ := two e'
      have := nilsF_f hn
      refine ⟨v', H, ?_, e⟩
      have h3 : kdNew h n0 L p v (.s z ks) = match fzV h n0 L v, newRoot h n0 L p ks (rootOf n0 v) with
          | some v', some o => some (v', o)
          | _, _ => none := by
        cases v with
        | one l => cases l <;> first | rfl | exact absurd rfl this
        | _ => rfl
      rw [h3, h1, h2]
  | b2 kss =>
    have e' : @Option.rec (V × Heap) (fun _ => RR) none (fun q => v3K q.1 fun v => heapK q.2 fun H => k v H) (kdNew h n0 L p v (.b2 kss)) = some r := e
    cases hq : kdNew h n0 L p v (.b2 kss) with
    | none => rw [hq] at e'; cases e'
    | some q =>
      rw [hq] at e'
      simp only [v3K_eq, heapK_eq] at e'
      exact ⟨_, _, rfl, e'⟩
noncomputable def kdAllK (t : Tmps) : List (Nat × Kd) → Nat → (Tmps → Heap → RR) → RR := @List.rec (Nat × Kd) (fun _ => Nat → (Tmps → Heap → RR) → RR) (fun _ k => k [] [])
  (fun e _ ih p k => kdNewK h n0 L p (tgetF t e.1) e.2 fun v H => natK (Nat.add p (lenF H)) fun q => natK e.1 fun i => ih q fun T H2 => appHH H H2 fun H => k ((i, v) :: T) H)
theorem kdAllK_some {t : Tmps} : ∀ {K : List (Nat × Kd)} {p : Nat} {k : Tmps → Heap → RR} {r}, kdAllK h n0 L t K p k = some r → ∃ T H, kdAll h n0 L t p K = some (T, H) ∧ k T H = some r
  | [], p, k, r, e => ⟨_, _, rfl, e⟩
  | x :: K, p, k, r, e => by
    have e' : (kdNewK h n0 L p (tgetF t x.1) x.2 fun v H => natK (Nat.add p (lenF H)) fun q => natK x.1 fun i => kdAllK h n0 L t K q fun T H2 => appHH H H2 fun H => k ((i, v) :: T) H) = some r := e
    obtain ⟨v, H, h1, e2⟩ := kdNewK_some h n0 L e'
    simp only [natK_eq, lenF_eq, appHH_eq] at e2
    obtain ⟨T, H2, h2, e3⟩ := kdAllK_some e2
    rw [tgetF_eq] at h1
    exact ⟨_, _, by simp only [kdAll, h1]; rw [show p + H.length = Nat.add p H.length from rfl, h2], e3⟩
end
noncomputable def tidyK (n0 : Nat) (K : List (Nat × Kd)) (t : Tmps) (h : Heap) (w : List Nat) (k : KS) : RR := kdLK h n0 t K fun L => iteK (okLF n0 L) (kdAllK h n0 L t K 0 fun T H => natsK (wsOf n0 w) fun w => takeHK h n0 fun acc => fzHK h n0 L w acc fun h' => appHH h' H fun h' => k T h' w) none
theorem tidyK_some {n0 : Nat} {K : List (Nat × Kd)} {t : Tmps} {h : Heap} {w : List Nat} {k : KS} {r} (e : tidyK n0 K t h w k = some r) : k (tidy n0 K ⟨t, h, w⟩).tmps (tidy n0 K ⟨t, h, w⟩).heap (tidy n0 K ⟨t, h, w⟩).ws = some r := by
  unfold tidyK at e
  rw [kdLK_eq] at e
  obtain ⟨h1, e⟩ := iteK_some e
  obtain ⟨T, H, h2, e⟩ := kdAllK_some _ _ _ e
  simp only [natsK_eq, takeHK_eq] at e
  obtain ⟨h', h3, e⟩ := fzHK_hands _ _ _ _ _ _ _ e
  rw [appHH_eq] at e
  have : tidyO n0 K ⟨t, h, w⟩ = some ⟨T, h' ++ H, wsOf n0 w⟩ := by
    unfold tidyO
    simp only [okLF_some h1, if_true, h2, h3]
  unfold tidy
  rw [this]
  exact e
noncomputable def normK (l : Leaf) (k : Leaf → RR) : RR := lK l (fun b => k (.bool b)) (fun j n => k (.int j n)) (fun s => k (.str s)) (k .nilp) (fun a b c d => k (.ptr a b c d)) (fun cs o => k (.iptr cs o)) (k (.isl [])) (k (.isl [])) (fun a b c d e => k (.sl a b c d e)) (fun es => k (.isl es)) (k .nilm) (fun a => k (.map a)) (k .nilf) (fun f cs => k (.fn f cs)) (k .junk) (fun ks g rs => k (.imap ks g rs))
theorem normK_eq (l : Leaf) (k : Leaf → RR) : normK l k = k (normL l) := by cases l <;> rfl
noncomputable def normsK : List Leaf → (List Leaf → RR) → RR := @List.rec Leaf (fun _ => (List Leaf → RR) → RR) (fun k => k []) (fun x _ ih k => normK x fun x => ih fun xs => k (x :: xs))
theorem normsK_eq : ∀ (l : List Leaf) (k : List Leaf → RR), normsK l k = k (l.map normL)
  | [], k => rfl
  | x :: xs, k => by
    show (normK x fun x => normsK xs fun xs => k (x :: xs)) = _
    rw [normK_eq, normsK_eq xs]; rfl
noncomputable def normV0K (v : V) (k : V → RR) : RR := vK v (k .junk) (fun l => normK l fun l => k (.one l)) (fun cs => normsK cs fun cs => k (.agg cs)) (fun vs => k (.tup vs))
theorem normV0K_eq (v : V) (k : V → RR) : normV0K v k = k (normV0 v) := by cases v <;> simp [normV0K, normK_eq, normsK_eq, normV0]
noncomputable def normVsK : List V → (List V → RR) → RR := @List.rec V (fun _ => (List V → RR) → RR) (fun k => k []) (fun x _ ih k => normV0K x fun x => ih fun xs => k (x :: xs))
theorem normVsK_eq : ∀ (l : List V) (k : List V → RR), normVsK l k = k (l.map normV0)
  | [], k => rfl
  | x :: xs, k => by
    show (normV0K x fun x => normVsK xs fun xs => k (x :: xs)) = _
    rw [normV0K_eq, normVsK_eq xs]; rfl
noncomputable def normVK (v : V) (k : V → RR) : RR := vK v (k .junk) (fun l => normK l fun l => k (.one l)) (fun cs => normsK cs fun cs => k (.agg cs)) (fun vs => normVsK vs fun vs => k (.tup vs))
theorem normVK_eq (v : V) (k : V → RR) : normVK v k = k (normV v) := by cases v <;> simp [normVK, normK_eq, normsK_eq, normVsK_eq, normV, normV0]
noncomputable def wrapLK (n0 : Nat) (L : List (Option Nat)) (v : V) (h : Heap) (ws : List Nat) (k : V → Heap → RR) : RR := iteK (okLF n0 L) (fzVK h n0 L v fun v => takeHK h n0 fun acc => fzHK h n0 L ws acc fun h' => mapLK (objOfK h n0 L) L fun H => normVK v fun v => appHH h' H fun h' => k v h') none
theorem wrapLK_some {n0 : Nat} {L : List (Option Nat)} {v : V} {h : Heap} {ws : List Nat} {k : V → Heap → RR} {r} (e : wrapLK n0 L v h ws k = some r) : k (wrapC n0 L v h ws).1 (wrapC n0 L v h ws).2.1 = some r ∧ (wrapC n0 L v h ws).2.2 = ws := by
  unfold wrapLK at e
  obtain ⟨h1, e⟩ := iteK_some e
  obtain ⟨v', h2, e⟩ := fzVK_hands _ _ _ _ _ _ e
  rw [takeHK_eq] at e
  obtain ⟨h', h3, e⟩ := fzHK_hands _ _ _ _ _ _ _ e
  obtain ⟨H, h4, e⟩ := mapLK_hands (objOfK_hands h n0 L) _ _ _ e
  rw [normVK_eq, appHH_eq] at e
  have : wrapL n0 L v h ws = some (normV v', h' ++ H) := by
    unfold wrapL
    simp only [okLF_some h1, if_true, h2, h3, h4]
  unfold wrapC
  rw [this]
  exact ⟨e, rfl⟩
noncomputable def wrapUK (mode n0 : Nat) (v : V) (h : Heap) (ws : List Nat) (k : K3) : RR := natsK (wsOf n0 ws) fun ws' => @Nat.rec (fun _ => RR) (wrapLK n0 [] v h ws' fun v h => k v h ws')
  (fun m _ => @Nat.rec (fun _ => RR) (idsK (rootsV n0 v) fun L => wrapLK n0 L v h ws' fun v h => k v h ws') (fun _ _ => k v h ws') m) mode
theorem wrapUK_some {mode n0 : Nat} {v : V} {h : Heap} {ws : List Nat} {k : K3} {r} (e : wrapUK mode n0 v h ws k = some r) : k (wrapUp mode n0 v h ws).1 (wrapUp mode n0 v h ws).2.1 (wrapUp mode n0 v h ws).2.2 = some r := by
  unfold wrapUK at e
  rw [natsK_eq] at e
  cases mode with
  | zero =>
    obtain ⟨h1, h2⟩ := wrapLK_some (k := fun v h => k v h (wsOf n0 ws)) e
    simp only [wrapUp, h2]; exact h1
  | succ m =>
    cases m with
    | zero =>
      have e' : (idsK (rootsV n0 v) fun L => wrapLK n0 L v h (wsOf n0 ws) fun v h => k v h (wsOf n0 ws)) = some r := e
      rw [idsK_eq] at e'
      obtain ⟨h1, h2⟩ := wrapLK_some (k := fun v h => k v h (wsOf n0 ws)) e'
      simp only [wrapUp, h2]; exact h1
    | succ m => exact e
end Go.Proofs.YtkbdhjfjbkmkcaaGreat.Abs.Fast
