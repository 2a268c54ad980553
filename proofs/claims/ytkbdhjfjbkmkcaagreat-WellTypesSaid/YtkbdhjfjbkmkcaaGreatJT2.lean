/- The abstract machine: single operations tell what the model does; those that make and change no memory. -/
import Derived.Test.YtkbdhjfjbkmkcaaGreatJT1
import Derived.Laws.StructEq
namespace Go.Proofs.YtkbdhjfjbkmkcaaGreat.Abs
open Go Go.RowKit

def Good (B : Nat) (M : Mem) (H' : Heap) (v : V) (w : World) (r : Result Next) : Prop :=
  ∃ M' w' u, Ext M M' ∧ Inv B M' H' w' ∧ VV M' v u ∧ Below B w w' ∧ (r = .ok (.value u) w' ∨ (r = .ok .skip w' ∧ u = undef))

theorem Good.same {B : Nat} {M : Mem} {H : Heap} {v : V} {w : World} {u : Value} {r : Result Next} (hI : Inv B M H w) (h : VV M v u) (hr : r = .ok (.value u) w) : Good B M H v w r :=
  ⟨M, w, u, .refl M, hI, h, .refl B w, .inl hr⟩

theorem pureR_some {h : Heap} {x : Option V} {v : V} {h' : Heap} {ws : List Nat} (e : pureR h x = some (v, h', ws)) : x = some v ∧ h' = h ∧ ws = [] := by
  unfold pureR at e
  cases x with
  | none => cases e
  | some y => simp at e; obtain ⟨rfl, rfl, rfl⟩ := e; exact ⟨rfl, rfl, rfl⟩

theorem ofConst_R (S : Stab) (v : Value) (h : v.oneCell' = true) : PVR S (ofConst v) v ∨ ofConst v = .junk := by
  cases v with
  | bool b => exact .inl (.bool b)
  | int k n => exact .inl (.int k n)
  | string s => exact .inl (by obtain ⟨⟨l⟩⟩ := s; exact .str l)
  | pointer a => cases a with
    | none => exact .inl .nilp
    | some a => exact .inr rfl
  | slice a n c =>
    unfold ofConst
    split <;> first | exact .inr rfl | (rename_i e; cases e; try exact .inl .nils)
  | map r => cases r with
    | none => exact .inl .nilm
    | some a => exact .inr rfl
  | nilFunc => exact .inl .nilf
  | agg a => cases h
  | tuple a => cases h
  | _ => exact .inr rfl

theorem ofConst_V (M : Mem) (v : Value) (h : v.oneCell' = true) : VR M (ofConst v) v := by
  rcases ofConst_R M.stab v h with h1 | h1
  · exact .pure h1
  · rw [h1]; exact .junk v h

theorem ofConstV_V (M : Mem) (v : Value) : VV M (ofConstV v) v := by
  unfold ofConstV
  split
  · rename_i cs
    split
    · rename_i hall
      refine .agg ⟨by simp, fun j hj => ?_⟩
      have hj' : j < cs.size := by simpa using hj
      rw [show (List.map ofConst cs.toList).getD j .junk = ofConst (cs.toList.getD j undef) by simp [List.getD, hj']]
      refine ofConst_V M _ ?_
      have : cs.toList.getD j undef = cs[j] := by simp [List.getD, hj']
      rw [this]
      exact (Array.all_eq_true.1 hall) j hj'
    · exact .junk _
  · exact .junk _
  · rename_i h1 h2
    refine .one (ofConst_V M _ ?_)
    cases v <;> first | rfl | (exact (h1 _ rfl).elim) | (exact (h2 _ rfl).elim)

theorem ev_V {M : Mem} {t : Tmps} {a : Act} (h : TR M t a.tmps) (x : Operand) : VV M (ev t x) (a.eval x) := by
  cases x with
  | tmp i => exact h i
  | const v => exact ofConstV_V M v
  | global g => exact .junk _
  | func f => exact .one (.pure (.fn f [] #[] rfl (fun i hi => by simp at hi)))

section inversion
variable {M : Mem} {v : Value}
theorem VV.one_inv {l : Leaf} (h : VV M (.one l) v) : VR M l v := by cases h; assumption
theorem VV.agg_inv {cs : List Leaf} (h : VV M (.agg cs) v) : ∃ arr, v = .agg arr ∧ CsR M cs arr.toList := by cases h; exact ⟨_, rfl, by assumption⟩
theorem VV.tup_inv {vs : List V} (h : VV M (.tup vs) v) : ∃ arr : Array Value, v = .tuple arr ∧ arr.size = vs.length ∧ ∀ i, i < vs.length → VV M (vs.getD i .junk) (arr.getD i undef) := by cases h; exact ⟨_, rfl, by assumption, by assumption⟩
theorem VR.bool_inv {b : Bool} (h : VR M (.bool b) v) : v = .bool b := by cases h with | pure h => cases h; rfl
theorem VR.int_inv {k : IntKind} {n : Int} (h : VR M (.int k n) v) : v = .int k n := by cases h with | pure h => cases h; rfl
theorem VR.str_inv {s : List UInt8} (h : VR M (.str s) v) : v = .string ⟨⟨s⟩⟩ := by cases h with | pure h => cases h; rfl
theorem VR.nilp_inv (h : VR M .nilp v) : v = .pointer none := by cases h with | pure h => cases h; rfl
theorem VR.nils_inv (h : VR M .nils v) : v = .slice none 0 0 := by cases h with | pure h => cases h; rfl
theorem VR.zsl_inv (h : VR M .zsl v) : v = .slice none 0 0 ∨ ∃ a, v = .slice (some a) 0 0 := by
  cases h with
  | pure h => cases h with
    | zsl a => exact .inr ⟨_, rfl⟩
    | zslnil => exact .inl rfl
theorem VR.nilm_inv (h : VR M .nilm v) : v = .map none := by cases h with | pure h => cases h; rfl
theorem VR.nilf_inv (h : VR M .nilf v) : v = .nilFunc := by cases h with | pure h => cases h; rfl
theorem VR.map_inv {id : Nat} (h : VR M (.map id) v) : ∃ r, v = .map (some r) ∧ M.mp id = some r := by
  cases h with
  | pure h => cases h
  | map _ r h => exact ⟨r, rfl, h⟩
theorem VR.imap_inv {ks : List Leaf} {g : Bool} {rows : List (List Leaf)} (h : VR M (.imap ks g rows) v) : ∃ (r : Nat) (ms : Array MapEntry) (arrs : Nat → Array Value), v = .map (some r) ∧ M.stab.m r = some ms ∧ ms.size = ks.length ∧ rows.length = ks.length ∧
    (∀ i, i < ks.length → ValIs g (ms.getD i default).val (arrs i) ∧ (arrs i).size = (rows.getD i []).length) ∧ (∀ i, i < ks.length → PVR M.stab (ks.getD i .junk) (ms.getD i default).key) ∧
    ∀ i j, i < ks.length → j < (rows.getD i []).length → PVR M.stab ((rows.getD i []).getD j .junk) ((arrs i).getD j undef) := by
  cases h with
  | pure h =>
    cases h with
    | imap ks g rows r ms arrs h1 h2 h3 h4 h5 h6 => exact ⟨r, ms, arrs, rfl, h1, h2, h3, h4, h5, h6⟩
theorem VR.ptr_inv {id sz i off : Nat} (h : VR M (.ptr id sz i off) v) : ∃ hb, M.hist id sz = some hb ∧ v = .pointer (some ⟨hb.blk, i * hb.esz + off, none⟩) := by
  cases h with
  | pure h => cases h
  | ptr _ _ _ _ hb h => exact ⟨hb, h, rfl⟩
theorem VR.iptr_inv {cs : List Leaf} {off : Nat} (h : VR M (.iptr cs off) v) : ∃ b o arr, v = .pointer (some ⟨b, o + off, none⟩) ∧ M.stab b = some arr ∧ o + cs.length ≤ arr.size ∧
    ∀ j, j < cs.length → PVR M.stab (cs.getD j .junk) (arr.getD (o + j) undef) := by
  cases h with
  | pure h => cases h with
    | iptr _ _ b o arr h1 h2 h3 => exact ⟨b, o, arr, rfl, h1, h2, h3⟩
theorem VR.sl_inv {id esz sz off len : Nat} (h : VR M (.sl id esz sz off len) v) : (sz = 0 ∧ off = 0 ∧ len = 0 ∧ v = .slice none 0 0 ∧ id < M.lim) ∨ ∃ cap a hb, v = .slice (some a) len cap ∧ M.hist id sz = some hb ∧ hb.esz = esz ∧ a.block = hb.blk ∧ a.spot = none ∧
    (cap = 0 ∨ a.off = off * esz) ∧ off + len ≤ sz ∧ sz ≤ off + cap ∧ off + cap ≤ hb.cap ∧ len ≤ cap := by
  cases h with
  | pure h => cases h
  | sl _ _ _ _ cap a hb h h1 h2 h3 h4 h5 h6 h7 => exact .inr ⟨cap, a, hb, rfl, h, rfl, h1, h2, h3, h4, h5, h6, h7⟩
  | slnil _ _ h => exact .inl ⟨rfl, rfl, rfl, rfl, h⟩
theorem VR.sl_at {id esz sz off len : Nat} (h : VR M (.sl id esz sz off len) v) (hn : 0 < sz ∨ 0 < off ∨ 0 < len) : ∃ cap a hb, v = .slice (some a) len cap ∧ M.hist id sz = some hb ∧ hb.esz = esz ∧ a.block = hb.blk ∧ a.spot = none ∧
    (cap = 0 ∨ a.off = off * esz) ∧ off + len ≤ sz ∧ sz ≤ off + cap ∧ off + cap ≤ hb.cap ∧ len ≤ cap := by
  rcases h.sl_inv with ⟨h1, h2, h3, _⟩ | h
  · omega
  · exact h
theorem VR.isl_inv {es : List (List Leaf)} (h : VR M (.isl es) v) : (es = [] ∧ ∃ b, v = .slice b 0 0) ∨ ∃ (a : Addr) (arr : Array Value) (esz cap : Nat), v = .slice (some a) es.length cap ∧ a.spot = none ∧ (es = [] ∨ (M.stab a.block = some arr ∧ a.off + es.length * esz ≤ arr.size)) ∧
    (∀ i, i < es.length → (es.getD i []).length = esz) ∧ (∀ i j, i < es.length → j < esz → PVR M.stab ((es.getD i []).getD j .junk) (arr.getD (a.off + i * esz + j) undef)) ∧ es.length ≤ cap := by
  cases h with
  | pure h => cases h with
    | isl _ a arr esz cap h1 h2 h3 h4 h5 => exact .inr ⟨a, arr, esz, cap, rfl, h1, h2, h3, h4, h5⟩
    | islz b => exact .inl ⟨rfl, b, rfl⟩
theorem VR.isl_at {es : List (List Leaf)} (h : VR M (.isl es) v) (hn : es ≠ []) : ∃ (a : Addr) (arr : Array Value) (esz cap : Nat), v = .slice (some a) es.length cap ∧ a.spot = none ∧ (es = [] ∨ (M.stab a.block = some arr ∧ a.off + es.length * esz ≤ arr.size)) ∧
    (∀ i, i < es.length → (es.getD i []).length = esz) ∧ (∀ i j, i < es.length → j < esz → PVR M.stab ((es.getD i []).getD j .junk) (arr.getD (a.off + i * esz + j) undef)) ∧ es.length ≤ cap := by
  rcases h.isl_inv with ⟨h1, _⟩ | h
  · exact (hn h1).elim
  · exact h
theorem VR.fn_inv {f : FuncId} {caps : List Leaf} (h : VR M (.fn f caps) v) : ∃ vs : Array Value, v = .func (.func f) #[] vs ∧ vs.size = caps.length ∧ ∀ i, i < caps.length → VR M (caps.getD i .junk) (vs.getD i undef) := by
  cases h with
  | pure h => cases h with
    | fn _ _ vs h1 h2 => exact ⟨vs, rfl, h1, fun i hi => .pure (h2 i hi)⟩
  | fn _ _ vs h1 h2 => exact ⟨vs, rfl, h1, h2⟩
end inversion

theorem natOf_inv {M : Mem} {x : V} {v : Value} {n : Nat} (h : VV M x v) (e : natOf x = some n) : ∃ k, v = .int k (n : Int) := by
  unfold natOf at e
  split at e
  · rename_i k m
    split at e
    · rename_i h0
      cases e
      exact ⟨k, by rw [h.one_inv.int_inv]; congr 1; omega⟩
    · cases e
  · cases e

theorem cellOf {w : World} {c k : Nat} {arr : Array Value} {e : TypeId} {fr : Nat × Nat} (h : w.heap[c]? = some (.cells arr e fr)) (hk : k < arr.size) : w.cell? ⟨c, k, none⟩ = some (arr.getD k undef) := by
  rw [cell_of_row w c k arr e fr h]
  simp [Array.getD, hk]

theorem rowAt_some {h : Heap} {id sz : Nat} {r : Nat × List (List Leaf)} (e : rowAt h id sz = some r) : h[id]? = some (some (.row r.1 r.2)) ∧ r.2.length = sz := by
  unfold rowAt at e
  split at e
  · split at e
    · cases e; rename_i h1 h2; exact ⟨h1, h2⟩
    · cases e
  · cases e

theorem cut_some {cs : List Leaf} {off n : Nat} {r : List Leaf} (e : cut cs off n = some r) : off + n ≤ cs.length ∧ r.length = n ∧ ∀ j, j < n → r.getD j .junk = cs.getD (off + j) .junk := by
  unfold cut at e
  split at e
  · rename_i h
    cases e
    refine ⟨h, by simp; omega, fun j hj => ?_⟩
    simp [List.getD, List.getElem?_drop, hj]
  · cases e

theorem range_some {n j j' : Nat} (h : (List.range n)[j]? = some j') : j < n ∧ j' = j := by
  obtain ⟨h1, h2⟩ := List.getElem?_eq_some_iff.1 h
  simp at h1 h2
  exact ⟨h1, h2.symm⟩

theorem rd_sound {B : Nat} {M : Mem} {H : Heap} {w : World} (hI : Inv B M H w) {l : Leaf} {n : Nat} {cs : List Leaf} {v : Value} (e : rd H l n = some cs) (hv : VR M l v) :
    ∃ a vs, v = .pointer (some a) ∧ cs.length = n ∧ CsR M cs vs ∧ ∀ j u, vs[j]? = some u → w.cell? (a.add j) = some u := by
  unfold rd at e
  split at e
  · rename_i id sz i off
    obtain ⟨hb, hh, rfl⟩ := hv.ptr_inv
    obtain ⟨r, e1, e2⟩ := Option.bind_eq_some_iff.1 e
    obtain ⟨ce, e3, e4⟩ := Option.bind_eq_some_iff.1 e2
    obtain ⟨h1, h2⟩ := rowAt_some e1
    obtain ⟨c, cap, arr, ty, g1, g2, g3, g4, g5, g6, g7, g8⟩ := hI.rowOf h1 hh
    rw [h2, hh] at g1; cases g1
    obtain ⟨k1, k2, k3⟩ := cut_some e4
    have hi : i < r.2.length := (List.getElem?_eq_some_iff.1 e3).1
    have hce : r.2.getD i [] = ce := by simp [List.getD, e3]
    have hlen := g7 i hi
    rw [hce] at hlen
    have hbound : ∀ j, j < n → i * r.1 + (off + j) < arr.size := by
      intro j hj
      have hA : (i + 1) * r.1 ≤ cap * r.1 := Nat.mul_le_mul_right _ (by omega)
      rw [Nat.add_mul, Nat.one_mul] at hA
      omega
    refine ⟨_, (List.range n).map fun j => arr.getD (i * r.1 + (off + j)) undef, rfl, k2, ⟨by simp [k2], fun j hj => ?_⟩, fun j u hj => ?_⟩
    · rw [k2] at hj
      have h8 := g8 i (off + j) hi (by omega)
      rw [hce] at h8
      rw [k3 j hj]
      have : (List.map (fun j => arr.getD (i * r.1 + (off + j)) undef) (List.range n)).getD j undef = arr.getD (i * r.1 + (off + j)) undef := by simp [List.getD, hj]
      rw [this]; exact h8
    · simp only [List.getElem?_map, Option.map_eq_some_iff] at hj
      obtain ⟨j', hj1, rfl⟩ := hj
      have hj2 : j < n ∧ j' = j := range_some hj1
      obtain ⟨hj3, rfl⟩ := hj2
      rw [Addr.add_lit, show i * r.1 + off + j' = i * r.1 + (off + j') by omega]
      exact cellOf g3 (hbound j' hj3)
  · rename_i cs0 off
    obtain ⟨b, o, arr, rfl, h1, h2, h3⟩ := hv.iptr_inv
    obtain ⟨k1, k2, k3⟩ := cut_some e
    obtain ⟨ty, fr, g⟩ := hI.stab _ _ h1
    refine ⟨_, (List.range n).map fun j => arr.getD (o + (off + j)) undef, rfl, k2, ⟨by simp [k2], fun j hj => ?_⟩, fun j u hj => ?_⟩
    · rw [k2] at hj
      rw [k3 j hj]
      have : (List.map (fun j => arr.getD (o + (off + j)) undef) (List.range n)).getD j undef = arr.getD (o + (off + j)) undef := by simp [List.getD, hj]
      rw [this]; exact .pure (h3 (off + j) (by omega))
    · simp only [List.getElem?_map, Option.map_eq_some_iff] at hj
      obtain ⟨j', hj1, rfl⟩ := hj
      have hj2 : j < n ∧ j' = j := range_some hj1
      obtain ⟨hj3, rfl⟩ := hj2
      rw [Addr.add_lit, show o + off + j' = o + (off + j') by omega]
      exact cellOf g (by omega)
  · cases e
end Go.Proofs.YtkbdhjfjbkmkcaaGreat.Abs
