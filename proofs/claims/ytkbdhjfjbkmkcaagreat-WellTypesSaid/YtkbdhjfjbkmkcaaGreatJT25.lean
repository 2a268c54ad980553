/- The abstract machine: what a law is given, read as the law's own reading says, as trees. -/
import Derived.Test.YtkbdhjfjbkmkcaaGreatJT24
import Derived.ChangeArms
import Derived.ChangeShapes
import Derived.SizedLaws
set_option linter.unusedSimpArgs false
set_option linter.unusedVariables false
namespace Go.Proofs.YtkbdhjfjbkmkcaaGreat.Abs
open Go Go.RowKit

inductive Ty where
  | bool
  | int (k : IntKind)
  | str
  | slice (e : Ty)
  | struct (fs : List Ty)

mutual
def Ty.size : Ty → Nat
  | .bool => 1
  | .int _ => 1
  | .str => 1
  | .slice _ => 1
  | .struct fs => Ty.sizes fs
def Ty.sizes : List Ty → Nat
  | [] => 0
  | t :: ts => t.size + Ty.sizes ts
end

def Ty.mb : Ty → Nat
  | .int .i64 => 8
  | .int .u64 => 8
  | .str => 16
  | .slice _ => 24
  | .struct (.int .i64 :: .int .i64 :: .int .i64 :: .int .i64 :: _) => 32
  | .struct (.int .i64 :: .int .i64 :: _) => 16
  | .struct (.slice _ :: _) => 24
  | .struct (.str :: _) => 16
  | .struct (.int .i64 :: _) => 8
  | _ => 1

mutual
def Ty.fits (P : Program) : Ty → TypeId → Bool
  | .bool, t => match P.underlying t with | some .bool => P.cellsOf t == 1 | _ => false
  | .int k, t => match P.underlying t with | some (.int k') => decide (k' = k) && P.cellsOf t == 1 | _ => false
  | .str, t => match P.underlying t with | some .string => P.cellsOf t == 1 | _ => false
  | .slice e, t => match P.underlying t with | some (.slice et) => P.cellsOf t == 1 && P.cellsOf et == e.size && decide (0 < e.size) && decide (e.mb ≤ P.bytesOf et) && e.fits P et | _ => false
  | .struct fs, t => match P.underlying t with | some (.struct fds) => P.cellsOf t == Ty.sizes fs && Ty.fitsAll P fs fds.toList 0 | _ => false
def Ty.fitsAll (P : Program) : List Ty → List Field → Nat → Bool
  | [], [], _ => true
  | t :: ts, f :: fs, off => f.offset == off && P.cellsOf f.type == t.size && t.fits P f.type && Ty.fitsAll P ts fs (off + t.size)
  | _, _, _ => false
end

mutual
def Typed : Ty → List Leaf → Prop
  | .bool, ls => ∃ b, ls = [.bool b]
  | .int k, ls => ∃ n, ls = [.int k n] ∧ (Lit.int k n).wf = true
  | .str, ls => ∃ s : List UInt8, ls = [.str s] ∧ s.length ≤ reachBytes
  | .slice e, ls => ∃ es, ls = [.isl es] ∧ es.length * e.mb ≤ reachBytes ∧ ∀ x, x ∈ es → Typed e x
  | .struct fs, ls => TypedAll fs ls
def TypedAll : List Ty → List Leaf → Prop
  | [], ls => ls = []
  | t :: ts, ls => ∃ a b, ls = a ++ b ∧ Typed t a ∧ TypedAll ts b
end

theorem cell_stab {w : World} {a : Addr} {v : Value} (h : w.cell? a = some v) : a.spot = none ∧ ∃ arr, worldStab w a.block = some arr ∧ arr[a.off]? = some v := by
  unfold World.cell? at h
  split at h
  · rename_i c e fr hh
    split at h
    · cases h
    · rename_i hs
      exact ⟨by simpa using hs, c, by simp [worldStab, hh], h⟩
  · cases h

def Told (S : Stab) (ls : List Leaf) (cs : List Value) : Prop := ls.length = cs.length ∧ ∀ j, j < ls.length → PVR S (ls.getD j .junk) (cs.getD j undef)

theorem Told.one {S : Stab} {l : Leaf} {v : Value} (h : PVR S l v) : Told S [l] [v] := ⟨rfl, fun j hj => by
  have : j = 0 := by simpa using hj
  subst this; exact h⟩

theorem Told.append {S : Stab} {a b : List Leaf} {c d : List Value} (h : Told S a c) (k : Told S b d) : Told S (a ++ b) (c ++ d) := by
  refine ⟨by simp [h.1, k.1], fun j hj => ?_⟩
  rcases Nat.lt_or_ge j a.length with hl | hl
  · have := h.2 j hl
    simpa [List.getD, List.getElem?_append_left hl, List.getElem?_append_left (h.1 ▸ hl)] using this
  · have := k.2 (j - a.length) (by simp at hj; omega)
    simpa [List.getD, List.getElem?_append_right hl, List.getElem?_append_right (h.1 ▸ hl), h.1] using this

theorem choose_list {α : Type} {p : Nat → α → Prop} : ∀ (n : Nat), (∀ i, i < n → ∃ a, p i a) → ∃ l : List α, l.length = n ∧ ∀ i x, l[i]? = some x → p i x
  | 0, _ => ⟨[], rfl, fun i x h => by simp at h⟩
  | n + 1, h => by
    obtain ⟨l, h1, h2⟩ := choose_list n fun i hi => h i (by omega)
    obtain ⟨a, ha⟩ := h n (by omega)
    refine ⟨l ++ [a], by simp [h1], fun i x hx => ?_⟩
    rcases Nat.lt_or_ge i n with hl | hl
    · rw [List.getElem?_append_left (by omega)] at hx; exact h2 i x hx
    · rw [List.getElem?_append_right (by omega)] at hx
      have hi : i - l.length = 0 := by
        have := (List.getElem?_eq_some_iff.1 hx).1
        simpa using this
      rw [hi] at hx
      have : i = n := by omega
      subst this
      simp at hx; subst hx; exact ha

theorem add_add_block (a : Addr) (i j : Nat) : ((a.add i).add j).block = a.block := by
  unfold Addr.add; split <;> split <;> rfl
theorem add_add_off (a : Addr) (i j : Nat) : ((a.add i).add j).off = a.off + i + j := by
  unfold Addr.add; split <;> split <;> simp_all <;> omega

theorem row_pvr {w : World} {base : Nat} {a : Addr} {sz : Nat} (hpos : 0 < sz) {es : List (List Leaf)} (hne : es ≠ [])
    (h : ∀ i x, es[i]? = some x → ∃ cs, w.cells? base (a.add (i * sz)) sz = some cs ∧ Told (worldStab w) x cs) {cap : Nat} (hc : es.length ≤ cap) : PVR (worldStab w) (.isl es) (.slice (some a) es.length cap) := by
  have cell : ∀ i x, es[i]? = some x → x.length = sz ∧ ∀ j, j < sz → ∃ v, w.cell? ((a.add (i * sz)).add j) = some v ∧ PVR (worldStab w) (x.getD j .junk) v := by
    intro i x hx
    obtain ⟨cs, h1, h2⟩ := h i x hx
    obtain ⟨_, h3, h4⟩ := World.cells?_some h1
    refine ⟨by rw [h2.1, h3], fun j hj => ?_⟩
    have hj' : j < cs.length := by omega
    refine ⟨cs[j], by rw [h4 j hj]; simp [hj'], ?_⟩
    have := h2.2 j (by rw [h2.1]; exact hj')
    simpa [List.getD, hj'] using this
  have hlen : 0 < es.length := by
    cases es with
    | nil => exact (hne rfl).elim
    | cons => simp
  have at_ : ∀ i, i < es.length → es[i]? = some (es.getD i []) := fun i hi => by simp [List.getD, hi]
  -- the block
  obtain ⟨v0, c0, _⟩ := (cell 0 _ (at_ 0 hlen)).2 0 hpos
  obtain ⟨s1, arr, s2, _⟩ := cell_stab c0
  rw [Nat.zero_mul] at s1 s2
  have hspot : a.spot = none := by simpa [Addr.add] using s1
  have hblk : worldStab w a.block = some arr := by simpa [Addr.add] using s2
  have get : ∀ i j, i < es.length → j < sz → ∃ v, arr[a.off + i * sz + j]? = some v ∧ PVR (worldStab w) ((es.getD i []).getD j .junk) v := by
    intro i j hi hj
    obtain ⟨v, c1, c2⟩ := (cell i _ (at_ i hi)).2 j hj
    obtain ⟨_, arr', s3, s4⟩ := cell_stab c1
    rw [add_add_block, hblk] at s3
    cases s3
    rw [add_add_off] at s4
    exact ⟨v, s4, c2⟩
  refine .isl es a arr sz cap hspot (.inr ⟨hblk, ?_⟩) (fun i hi => (cell i _ (at_ i hi)).1) (fun i j hi hj => ?_) hc
  · obtain ⟨v, g1, _⟩ := get (es.length - 1) (sz - 1) (by omega) (by omega)
    have := (Array.getElem?_eq_some_iff.1 g1).1
    have e : es.length * sz = (es.length - 1) * sz + sz := by
      rw [← Nat.succ_mul]; congr 1; omega
    omega
  · obtain ⟨v, g1, g2⟩ := get i j hi hj
    have e : arr.getD (a.off + i * sz + j) undef = v := by
      obtain ⟨q1, q2⟩ := Array.getElem?_eq_some_iff.1 g1
      simp only [Array.getD, q1, dif_pos]
      exact q2
    rw [e]; exact g2

section
variable {H : Type} {enc : TypeId × Value → H} {P : Program} {w : World} {base : Nat} {held : Bool}

theorem weightsAll_mem {e : TypeId} {n : Nat} : ∀ {l : List (DataW H)} {d : DataW H}, d ∈ l → n ∈ d.weights P e → n ∈ DataW.weightsAll P e l
  | [], d, hd, hn => by simp at hd
  | x :: l, d, hd, hn => by
    unfold DataW.weightsAll
    rcases List.mem_cons.1 hd with rfl | h
    · exact List.mem_append_left _ hn
    · exact List.mem_append_right _ (weightsAll_mem h hn)

theorem weightsEach_mem {n : Nat} : ∀ {ts : List TypeId} {ds : List (DataW H)} {j : Nat} {t : TypeId} {d : DataW H}, ts[j]? = some t → ds[j]? = some d → n ∈ d.weights P t → n ∈ DataW.weightsEach P ts ds
  | [], ds, j, t, d, ht, hd, hn => by simp at ht
  | t0 :: ts, [], j, t, d, ht, hd, hn => by simp at hd
  | t0 :: ts, d0 :: ds, 0, t, d, ht, hd, hn => by
    cases ht; cases hd
    unfold DataW.weightsEach
    exact List.mem_append_left _ hn
  | t0 :: ts, d0 :: ds, j + 1, t, d, ht, hd, hn => by
    unfold DataW.weightsEach
    exact List.mem_append_right _ (weightsEach_mem (by simpa using ht) (by simpa using hd) hn)

mutual
theorem trod_typed : ∀ (ty : Ty) {t : TypeId} {fuel : Nat} {cs : List Value} {x : DataW H × List MemPlace}, ty.fits P t = true → DataW.trod enc P w base (fun _ => true) held fuel t cs = some x → (∀ n, n ∈ x.1.weights P t → n ≤ reachBytes) → ∃ ls, Typed ty ls ∧ cs.length = ty.size ∧ Told (worldStab w) ls cs
  | .bool, t, fuel, cs, x, hf, h, hw => by
    unfold Ty.fits at hf
    split at hf
    · rename_i hu
      obtain ⟨b, rfl, _⟩ := DataW.trod_bool hu h
      exact ⟨[.bool b], by simp [Typed], rfl, .one (.bool b)⟩
    · cases hf
  | .int k, t, fuel, cs, x, hf, h, hw => by
    unfold Ty.fits at hf
    split at hf
    · rename_i k' hu
      rw [Bool.and_eq_true, decide_eq_true_eq] at hf
      obtain ⟨rfl, _⟩ := hf
      obtain ⟨n, rfl, _, hwf⟩ := DataW.trod_int hu h
      exact ⟨[.int k' n], by simp [Typed, hwf], rfl, .one (.int k' n)⟩
    · cases hf
  | .str, t, fuel, cs, x, hf, h, hw => by
    unfold Ty.fits at hf
    split at hf
    · rename_i hu
      obtain ⟨s, rfl, rfl, hs⟩ := DataW.trod_string hu h
      refine ⟨[.str s.data.toList], ?_, rfl, .one (.str _)⟩
      simp only [Typed]
      exact ⟨_, rfl, hw _ (by simp [DataW.weights])⟩
    · cases hf
  | .slice e, t, fuel, cs, x, hf, h, hw => by
    unfold Ty.fits at hf
    split at hf
    · rename_i et hu
      simp only [Bool.and_eq_true, beq_iff_eq, decide_eq_true_eq] at hf
      obtain ⟨⟨⟨⟨_, hce⟩, hpos⟩, hby⟩, hfe⟩ := hf
      rcases DataW.trod_slice hu h with ⟨rfl, _⟩ | ⟨a, len, cap, elems, rest, n, rfl, rfl, rfl, hb, hl, hcap, hlen, hel, hsp, hns⟩
      · exact ⟨[.isl []], by simp [Typed], rfl, .one (.islz _)⟩
      · rcases Nat.eq_zero_or_pos len with h0 | h0
        · subst h0
          rcases Nat.eq_zero_or_pos cap with hc0 | hc0
          · subst hc0
            exact ⟨[.isl []], by simp [Typed], rfl, .one (.islz _)⟩
          · obtain ⟨hr, hr2⟩ := hsp rfl
            have h1 := hr2 0 hc0
            rw [List.getElem?_eq_getElem (by omega), Option.bind_eq_some_iff] at h1
            obtain ⟨cs, c1, _⟩ := h1
            obtain ⟨_, c2, c3⟩ := World.cells?_some c1
            have c4 := c3 0 (by omega)
            rw [List.getElem?_eq_getElem (by omega)] at c4
            have hspot := (cell_stab c4).1
            have hspot' : a.spot = none := by simpa [Addr.add] using hspot
            refine ⟨[.isl []], by simp [Typed], rfl, .one (.isl [] a #[] 0 cap hspot' (.inl rfl) (fun i hi => by simp at hi) (fun i j hi => by simp at hi) (by simp))⟩
        · have each : ∀ i, i < len → ∃ ls : List Leaf, Typed e ls ∧ ∃ cs, w.cells? base (a.add (i * e.size)) e.size = some cs ∧ Told (worldStab w) ls cs := by
            intro i hi
            have h1 := hel i hi
            have h2 : ∃ y, elems[i]? = some y := ⟨elems[i], by simp [hlen, hi]⟩
            obtain ⟨y, hy⟩ := h2
            rw [hy, Option.bind_eq_some_iff, hce] at h1
            obtain ⟨cs, c1, c2⟩ := h1
            obtain ⟨ls, t1, t2, t3⟩ := trod_typed e hfe c2 fun n' hn' => hw n' (by
              simp only [DataW.weights, hu]
              exact List.mem_cons_of_mem _ (List.mem_append_left _ (weightsAll_mem (List.mem_map.2 ⟨y, List.mem_of_getElem? hy, rfl⟩) hn')))
            exact ⟨ls, t1, cs, c1, t3⟩
          obtain ⟨es, k1, k2⟩ := choose_list len each
          refine ⟨[.isl es], ?_, rfl, .one ?_⟩
          · simp only [Typed]
            have hlw : (elems.length + rest.length) * P.bytesOf et ≤ reachBytes := hw _ (by simp [DataW.weights, hu])
            have hlw' : es.length * e.mb ≤ (elems.length + rest.length) * P.bytesOf et := Nat.mul_le_mul (by omega) hby
            refine ⟨es, rfl, by omega, fun x hx => ?_⟩
            obtain ⟨i, hi, rfl⟩ := List.mem_iff_getElem.1 hx
            exact (k2 i es[i] (by simp [hi])).1
          · rw [← k1]
            exact row_pvr hpos (by intro h; rw [h] at k1; simp at k1; omega) (fun i x hx => (k2 i x hx).2) (by omega)
    · cases hf
  | .struct fs, t, fuel, cs, x, hf, h, hw => by
    unfold Ty.fits at hf
    split at hf
    · rename_i fds hu
      rw [Bool.and_eq_true, beq_iff_eq] at hf
      obtain ⟨xs, n, _, rfl, hl, hxs, hfs⟩ := DataW.trod_struct hu h
      obtain ⟨ls, h1, h2⟩ := trod_typedAll fs (fuel := n) (cs := cs) fds.toList 0 hf.2 (by rw [Nat.zero_add, hl, hf.1]) fun i f hi => by
        have hi' : fds[i]? = some f := by simpa using hi
        have := hfs i f hi'
        have hlt : i < xs.length := by rw [hxs]; exact (Array.getElem?_eq_some_iff.1 hi').1
        refine ⟨xs[i], by rw [this]; simp [hlt], fun n' hn' => hw n' ?_⟩
        simp only [DataW.weights, hu]
        exact weightsEach_mem (j := i) (by simp [hi']) (by simp [hlt]) hn'
      exact ⟨ls, by simpa [Typed] using h1, by rw [hl, hf.1, Ty.size], by simpa using h2⟩
    · cases hf
theorem trod_typedAll : ∀ (ts : List Ty) {fuel : Nat} {cs : List Value} (fs : List Field) (off : Nat), Ty.fitsAll P ts fs off = true → off + Ty.sizes ts = cs.length →
    (∀ (i : Nat) (f : Field), fs[i]? = some f → ∃ y, DataW.trod enc P w base (fun _ => true) held fuel f.type ((cs.drop f.offset).take (P.cellsOf f.type)) = some y ∧ ∀ n, n ∈ y.1.weights P f.type → n ≤ reachBytes) → ∃ ls, TypedAll ts ls ∧ Told (worldStab w) ls (cs.drop off)
  | [], fuel, cs, fs, off, hf, hl, h => by
    refine ⟨[], by simp [TypedAll], ?_⟩
    rw [List.drop_eq_nil_of_le (by simp [Ty.sizes] at hl; omega)]
    exact ⟨rfl, fun j hj => by simp at hj⟩
  | t :: ts, fuel, cs, [], off, hf, hl, h => by simp [Ty.fitsAll] at hf
  | t :: ts, fuel, cs, f :: fs, off, hf, hl, h => by
    simp only [Ty.fitsAll, Bool.and_eq_true, beq_iff_eq] at hf
    obtain ⟨⟨⟨h1, h2⟩, h3⟩, h4⟩ := hf
    rw [Ty.sizes] at hl
    obtain ⟨y, hy, hyw⟩ := h 0 f rfl
    rw [h1, h2] at hy
    obtain ⟨a, a1, a2, a3⟩ := trod_typed t h3 hy hyw
    obtain ⟨b, b1, b2⟩ := trod_typedAll ts fs (off + t.size) h4 (by omega) fun i f' hi => h (i + 1) f' (by simpa using hi)
    refine ⟨a ++ b, by simp only [TypedAll]; exact ⟨a, b, rfl, a1, b1⟩, ?_⟩
    have e : cs.drop off = (cs.drop off).take t.size ++ cs.drop (off + t.size) := by
      rw [← List.drop_drop, List.take_append_drop]
    rw [e]
    exact a3.append b2
end
end
end Go.Proofs.YtkbdhjfjbkmkcaaGreat.Abs
