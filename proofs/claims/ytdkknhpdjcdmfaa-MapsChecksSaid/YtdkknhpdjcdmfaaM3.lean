/- Maps: how large they are; whether an entry may be. -/
import Derived.Test.YtdkknhpdjcdmfaaM2
set_option linter.unusedSimpArgs false
set_option linter.unusedVariables false
namespace Go.Proofs.Ytdkknhpdjcdmfaa.Abs
open Go Go.RowKit Go.Proofs

structure Ent where
  n : Int
  f : Int
  ps : List Int
  ds : List (Int × Int)
structure Mps where
  sizes : List Int
  es : List Ent

def encEnt (e : Ent) : List Leaf := [.int .i64 e.n, .int .i64 e.f, .isl (intsOf e.ps), .isl (pairsOf e.ds)]
def entsOf (es : List Ent) : List (List Leaf) := es.map encEnt
def encMps (m : Mps) : List Leaf := [.isl (intsOf m.sizes), .isl (entsOf m.es)]
@[simp] theorem entsOf_length (es : List Ent) : (entsOf es).length = es.length := by simp [entsOf]
@[simp] theorem entsOf_get (es : List Ent) (i : Nat) : (entsOf es)[i]? = (es[i]?).map encEnt := by simp [entsOf]
@[simp] theorem entsOf_plain (es : List Ent) : plainR (entsOf es) = true := plainR_map (fun _ => rfl) es

@[simp] theorem encEnt_plain (e : Ent) : plainC (encEnt e) = true := rfl
@[simp] theorem encMps_plain (m : Mps) : plainC (encMps m) = true := rfl
@[simp] theorem encEnt_length (e : Ent) : (encEnt e).length = 4 := rfl
@[simp] theorem encMps_length (m : Mps) : (encMps m).length = 2 := rfl
@[simp] theorem entsOf_tree (es : List Ent) : treeR (entsOf es) = true := treeR_map (fun _ => rfl) es
@[simp] theorem encEnt_tree (e : Ent) : treeC (encEnt e) = true := rfl
@[simp] theorem encMps_tree (m : Mps) : treeC (encMps m) = true := rfl

structure Ent.Ok (e : Ent) : Prop where
  ps : Fit e.ps
  ds : Fit e.ds
structure Mps.Ok (m : Mps) : Prop where
  sizes : Fit m.sizes
  es : Fit m.es
  each : ∀ e, e ∈ m.es → e.Ok

/-- How large maps are, no further than so much. -/
def weigh (top : Int) : List Ent → Int → Int
  | [], n => n
  | e :: es, n => if n ≤ top then weigh top es (n + 1 + e.ps.length + e.ds.length) else n

def weightS (h : Heap) (m : Mps) (s : Nat × Int) : St := ⟨[(2, .one (.ptr h.length 1 0 0)), (6, I (s.1 : Nat)), (5, I s.2), (1, I 200)], h ++ [some (.row 2 [encMps m])], []⟩

theorem weight_loop (h : Heap) (m : Mps) (hm : m.Ok) : ∃ i, lpK 57 Try.f57 41 0 h (weightS h m (0, m.sizes.length)) = some (.exit 0, weightS h m (i, weigh 200 m.es m.sizes.length)) := by
  have q := qt57
  simp [Try.f57, quietFn, quietRegs] at q
  have := loop_rel (P := Try.prog) (C := cfg) (sc := runScope Try.prog cfg 41 h.length (cfg.live 57) 0) (N := 41) (n0 := h.length) (K := cfg.live 57) (c := loopAt Try.f57 0) (weightS h m)
    (fun s => s.1 ≤ m.es.length ∧ 0 ≤ s.2) (fun s => m.es.length - s.1) (fun s r => ∃ i, r = (.exit 0, weightS h m (i, weigh 200 (m.es.drop s.1) s.2))) ?_ (0, (m.sizes.length : Int)) ⟨Nat.zero_le _, by simp⟩
  · obtain ⟨r, h1, i, rfl⟩ := this
    exact ⟨i, h1⟩
  rintro ⟨i, w⟩ ⟨j1, j2⟩
  have := hm.es
  simp only at j1 j2 ⊢
  by_cases hi : i < m.es.length
  · by_cases hw : w ≤ 200
    · obtain ⟨e, he⟩ : ∃ e, m.es[i]? = some e := ⟨m.es[i], by simp [hi]⟩
      have ok := hm.each e (List.mem_of_getElem? he)
      have h1 := ok.ps
      have h2 := ok.ds
      have he' : m.es[i] = e := by simpa [hi] using he
      refine .inl ⟨(i + 1, w + 1 + e.ps.length + e.ds.length), ?_, ⟨hi, by simp only; omega⟩, by simp only; omega, fun r hr => ?_⟩
      · simp (disch := omega) [round_eq, weightS, encMps, encEnt, Try.f57, lv57, q, hi, hw, he, wrap_i64, -getElem?_pos]
      · rw [List.drop_eq_getElem_cons hi, weigh, if_pos hw, he']; exact hr
    · refine .inr ⟨(.exit 0, weightS h m (i, w)), ?_, by simp, i, ?_⟩
      · simp (disch := omega) [round_eq, weightS, encMps, Try.f57, lv57, q, hi, hw, wrap_i64, -getElem?_pos]
      · rw [List.drop_eq_getElem_cons hi, weigh, if_neg hw]
  · refine .inr ⟨(.exit 0, weightS h m (i, w)), ?_, by simp, i, ?_⟩
    · simp (disch := omega) [round_eq, weightS, encMps, Try.f57, lv57, q, hi, wrap_i64, -getElem?_pos]
    · rw [List.drop_eq_nil_of_le (by omega), weigh]

theorem weight (h : Heap) (m : Mps) (hm : m.Ok) : CX 57 [.agg (encMps m), I 200] h = some (I (weigh 200 m.es m.sizes.length), h, []) := by
  refine CI_of Try.func57 rfl 0 ?_
  have hk : cfg.keep 57 = 0 := rfl
  obtain ⟨i, e⟩ := weight_loop h m hm
  simp [weightS, encMps, lpK, lv57, Try.f57] at e
  simp (disch := omega) [encMps, Try.f57, lv57, e, hk]

theorem light (h : Heap) (m : Mps) (hm : m.Ok) : CX 20 [.agg (encMps m)] h = some (Bo (decide (weigh 200 m.es m.sizes.length ≤ 200)), h, []) := by
  refine CI_of Try.func20 rfl 0 ?_
  have hk : cfg.keep 20 = 0 := rfl
  have e := weight [] m hm
  simp [encMps] at e
  simp (disch := omega) [encMps, Try.f20, hk, e]
end Go.Proofs.Ytdkknhpdjcdmfaa.Abs
