/- The law of maps: the program tells what the document tells. -/
import Derived.Test.YtdkknhpdjcdmfaaM8
import Derived.Test.YtdkknhpdjcdmfaaW25
set_option linter.unusedSimpArgs false
set_option linter.unusedVariables false
namespace Go.Proofs.Ytdkknhpdjcdmfaa.Abs
open Go Go.RowKit Go.Proofs

theorem check_sorted {m : Mps} (hc : (checkF m).1 = 0) : Sorted m.es := by
  unfold checkF at hc
  split at hc
  · cases hc
  · split at hc
    · cases hc
    · split at hc
      · rename_i i hi
        obtain ⟨_, x, hx, hb, _⟩ := findI_some hi
        simp only [Nat.sub_zero] at hx
        rw [hx] at hc
        simp [badEnt] at hb
        simp at hc
        split at hc
        · cases hc
        · omega
      · rename_i hn
        rw [findI_none] at hn
        have step : ∀ (i : Nat) (x : Ent), m.es[i]? = some x → lastN m.es i < x.n := by
          intro i x hx
          have := hn i x hx
          simp [badEnt] at this; omega
        have key : ∀ (d i : Nat) (x y : Ent), m.es[i]? = some x → m.es[i + d + 1]? = some y → x.n < y.n := by
          intro d
          induction d with
          | zero =>
            intro i x y hx hy
            have := step _ y hy
            rwa [Nat.add_zero, lastN_succ hx] at this
          | succ d ih =>
            intro i x y hx hy
            obtain ⟨z, hz⟩ : ∃ z, m.es[i + d + 1]? = some z := by
              have := (List.getElem?_eq_some_iff.1 hy).1
              exact ⟨m.es[i + d + 1]'(by omega), List.getElem?_eq_getElem (by omega)⟩
            have h1 := ih i x z hx hz
            have h2 := step _ y hy
            rw [show i + (d + 1) + 1 = (i + d + 1) + 1 by omega, lastN_succ hz] at h2
            omega
        intro i j x y hij hx hy
        exact key (j - i - 1) i x y hx (by rw [show i + (j - i - 1) + 1 = j by omega]; exact hy)

theorem findE_ok {m : Mps} (hm : m.Ok) (n : Int) : ((findE m.es n).getD noEnt).Ok := by
  unfold findE
  split
  · rename_i i hi
    cases hx : m.es[i]? with
    | none => exact ⟨by simp [noEnt, Fit], by simp [noEnt, Fit]⟩
    | some x => exact hm.each x (List.mem_of_getElem? hx)
  · exact ⟨by simp [noEnt, Fit], by simp [noEnt, Fit]⟩

theorem mapsChecks (h : Heap) (m : Mps) (hm : m.Ok) (n : Int) : CX 5 [.agg (encMps m), I n] h = some (Bo true, h, []) := by
  refine CI_of Try.func5 rfl 0 ?_
  have hk : cfg.keep 5 = 0 := rfl
  have q := qt5
  simp [Try.f5, quietFn, quietRegs] at q
  have e1 := light [] m hm
  have e2 := check [] m hm
  have e3 := check' [] m hm
  simp [encMps] at e1 e2 e3
  by_cases c1 : weigh 200 m.es m.sizes.length ≤ 200
  · by_cases c2 : (checkF m).1 = 0
    · have e4 := mfind (h ++ [some (.row 2 [[.isl (intsOf m.sizes), .isl (entsOf m.es)]])]) m hm (check_sorted c2) n
      have ok := findE_ok hm n
      generalize hx : (findE m.es n).getD noEnt = x at e4 ok
      have e6 := sameEnt [] x ok
      simp [encMps, encEnt] at e4 e6
      have e5 : ∀ h, CX 25 [.agg (encMps m), I n] h = some (.tup [.agg (encEnt x), Bo (findE m.es n).isSome], h, []) := fun h => by rw [mfind' h m hm n, hx]
      simp [encMps, encEnt] at e5
      simp (disch := omega) [Try.f5, hk, q, encMps, e1, e2, e3, e4, e5, e6, c1, c2, works25]
    · have c2' : ((checkF m).1 != 0) = true := by simpa using c2
      simp (disch := omega) [Try.f5, hk, q, encMps, e1, e2, e3, c1, c2', works25]
  · simp (disch := omega) [Try.f5, hk, q, encMps, e1, c1, works25]

/-! Trees of the law's types. -/

theorem list_of {α β : Type} {f : α → β} : ∀ {es : List β}, (∀ x, x ∈ es → ∃ a, x = f a) → ∃ l : List α, es = l.map f ∧ l.length = es.length
  | [], _ => ⟨[], rfl, rfl⟩
  | e :: es, h => by
    obtain ⟨a, ha⟩ := h e List.mem_cons_self
    obtain ⟨l, hl, hn⟩ := list_of (es := es) fun x hx => h x (List.mem_cons_of_mem _ hx)
    exact ⟨a :: l, by rw [ha, hl]; rfl, by simp [hn]⟩

theorem reach_fit {α : Type} {xs : List α} {b : Nat} (hb : 8 ≤ b) (h : xs.length * b ≤ reachBytes) : Fit xs := by
  unfold reachBytes at h
  have : xs.length * 8 ≤ xs.length * b := Nat.mul_le_mul_left _ hb
  show xs.length ≤ _
  omega

theorem typed_ints {ls : List Leaf} (h : Typed (.slice (.int .i64)) ls) : ∃ xs : List Int, ls = [.isl (intsOf xs)] ∧ Fit xs := by
  simp only [Typed] at h
  obtain ⟨es, rfl, h1, h2⟩ := h
  obtain ⟨xs, rfl, hl⟩ := list_of (f := fun n : Int => [Leaf.int .i64 n]) (es := es) fun x hx => by
    obtain ⟨n, hn, _⟩ := h2 x hx; exact ⟨n, hn⟩
  exact ⟨xs, rfl, reach_fit (b := 8) (by omega) (by rw [hl]; exact h1)⟩

theorem typed_pairs {ls : List Leaf} (h : Typed (.slice (.struct [.int .i64, .int .i64])) ls) : ∃ xs : List (Int × Int), ls = [.isl (pairsOf xs)] ∧ Fit xs := by
  simp only [Typed] at h
  obtain ⟨es, rfl, h1, h2⟩ := h
  obtain ⟨xs, rfl, hl⟩ := list_of (f := fun p : Int × Int => [Leaf.int .i64 p.1, Leaf.int .i64 p.2]) (es := es) fun x hx => by
    have := h2 x hx
    simp only [TypedAll, Typed] at this
    obtain ⟨_, _, rfl, ⟨a, rfl, _⟩, _, _, rfl, ⟨b, rfl, _⟩, rfl⟩ := this
    exact ⟨(a, b), rfl⟩
  exact ⟨xs, rfl, reach_fit (b := 16) (by omega) (by rw [hl]; exact h1)⟩

def tEntry : Ty := .struct [.int .i64, .int .i64, .slice (.int .i64), .slice (.struct [.int .i64, .int .i64])]
def tMaps : Ty := .struct [.slice (.int .i64), .slice tEntry]

theorem typed_maps {v : V} (h : TypedV tMaps v) : ∃ m : Mps, v = .agg (encMps m) ∧ m.Ok := by
  obtain ⟨ls, rfl, h⟩ := h
  simp only [TypedAll] at h
  obtain ⟨a, _, rfl, h1, b, _, rfl, h2, rfl⟩ := h
  obtain ⟨xs, rfl, hx⟩ := typed_ints h1
  simp only [Typed, tEntry] at h2
  obtain ⟨es, rfl, h3, h4⟩ := h2
  have each : ∀ x, x ∈ es → ∃ e : { e : Ent // e.Ok }, x = encEnt e.1 := by
    intro x hx
    have := h4 x hx
    simp only [TypedAll] at this
    obtain ⟨_, _, rfl, g1, _, _, rfl, g2, c, _, rfl, g3, d, _, rfl, g4, rfl⟩ := this
    obtain ⟨ps, rfl, hp⟩ := typed_ints g3
    obtain ⟨ds, rfl, hd⟩ := typed_pairs g4
    simp only [Typed] at g1 g2
    obtain ⟨n, rfl, _⟩ := g1
    obtain ⟨f, rfl, _⟩ := g2
    exact ⟨⟨⟨n, f, ps, ds⟩, ⟨hp, hd⟩⟩, rfl⟩
  obtain ⟨l, rfl, hl⟩ := list_of each
  refine ⟨⟨xs, l.map (·.1)⟩, ?_, ⟨hx, ?_, fun e he => ?_⟩⟩
  · simp [encMps, entsOf, List.map_map]
  · have := reach_fit (xs := l) (b := 16) (by omega) (by rw [hl]; exact h3); simpa [Fit] using this
  · obtain ⟨x, _, rfl⟩ := List.mem_map.1 he; exact x.2
end Go.Proofs.Ytdkknhpdjcdmfaa.Abs
