/- The abstract machine, step by step: loops; the list of the equations by which simp runs it. -/
import Derived.Test.YtkbdhjfjbkmkcaaGreatJT31
set_option linter.unusedSimpArgs false
set_option linter.unusedVariables false
namespace Go.Proofs.YtkbdhjfjbkmkcaaGreat.Abs
open Go Go.RowKit

section
variable {P : Program} {C : Cfg} {sc : Code → Code → St → CR} {N n0 : Nat} {K : List (Nat × Kd)} {c : Code}

theorem loop_fun {σ : Type} (en : σ → St) (J : σ → Prop) (μ : σ → Nat) (F : σ → AX × St)
    (step : ∀ s, J s → (∃ s', round P C sc N n0 K c (en s) = some (.normal, en s') ∧ J s' ∧ μ s' < μ s ∧ F s' = F s) ∨ (round P C sc N n0 K c (en s) = some (F s) ∧ (F s).1 ≠ .normal)) :
    ∀ s, J s → loopK P C sc N n0 K c (en s) = some (F s) := by
  have key : ∀ n s, μ s < n → J s → loopK P C sc N n0 K c (en s) = some (F s) := by
    intro n
    induction n with
    | zero => intro s h; omega
    | succ n ih =>
      intro s hm hJ
      rcases step s hJ with ⟨s', h1, h2, h3, h4⟩ | ⟨h1, h2⟩
      · have := ih s' (by omega) h2
        rw [h4] at this
        rw [← this]
        exact iterI_next h1
      · exact iterI_last h1 h2
  exact fun s h => key _ s (Nat.lt_succ_self _) h

theorem loop_list {α β : Type} (xs : List α) (k : β → α → β) (en : Nat → β → St) (out : β → AX × St) (J : Nat → β → Prop)
    (step : ∀ i b x, xs[i]? = some x → J i b → round P C sc N n0 K c (en i b) = some (.normal, en (i + 1) (k b x)) ∧ J (i + 1) (k b x))
    (stop : ∀ b, J xs.length b → round P C sc N n0 K c (en xs.length b) = some (out b) ∧ (out b).1 ≠ .normal) (b0 : β) (h0 : J 0 b0) :
    loopK P C sc N n0 K c (en 0 b0) = some (out (xs.foldl k b0)) := by
  have := loop_fun (P := P) (C := C) (sc := sc) (N := N) (n0 := n0) (K := K) (c := c) (fun s : Nat × β => en s.1 s.2) (fun s => s.1 ≤ xs.length ∧ J s.1 s.2) (fun s => xs.length - s.1) (fun s => out ((xs.drop s.1).foldl k s.2)) (by
    rintro ⟨i, b⟩ ⟨j1, j2⟩
    simp only at j1 j2 ⊢
    rcases Nat.lt_or_ge i xs.length with hi | hi
    · have hx : xs[i]? = some xs[i] := List.getElem?_eq_getElem hi
      obtain ⟨h1, h2⟩ := step i b _ hx j2
      refine .inl ⟨(i + 1, k b xs[i]), h1, ⟨hi, h2⟩, by simp only; omega, ?_⟩
      rw [List.drop_eq_getElem_cons hi, List.foldl_cons]
    · have : i = xs.length := by omega
      subst this
      rw [List.drop_length, List.foldl_nil]
      exact .inr (stop b j2)) (0, b0) ⟨Nat.zero_le _, h0⟩
  simpa using this

end

section
variable {P : Program} (t : TypeId) (k : IntKind) (a b : Int)
theorem bin_add : binV P .add t (.one (.int k a)) (.one (.int k b)) = some (.one (.int k (k.wrap (a + b)))) := by simp [binV, intBin]
theorem bin_sub : binV P .sub t (.one (.int k a)) (.one (.int k b)) = some (.one (.int k (k.wrap (a - b)))) := by simp [binV, intBin]
theorem bin_mul : binV P .mul t (.one (.int k a)) (.one (.int k b)) = some (.one (.int k (k.wrap (a * b)))) := by simp [binV, intBin]
theorem bin_quo : binV P .quo t (.one (.int k a)) (.one (.int k b)) = if b = 0 then none else some (.one (.int k (k.wrap (a.tdiv b)))) := by
  simp only [binV, intBin, if_true]; split <;> rfl
theorem bin_rem : binV P .rem t (.one (.int k a)) (.one (.int k b)) = if b = 0 then none else some (.one (.int k (a.tmod b))) := by
  simp only [binV, intBin, if_true]; split <;> rfl
theorem bin_and : binV P .and t (.one (.int k a)) (.one (.int k b)) = some (.one (.int k (k.wrap (BitVec.ofInt k.bits a &&& BitVec.ofInt k.bits b).toNat))) := by simp [binV, intBin]
theorem bin_or : binV P .or t (.one (.int k a)) (.one (.int k b)) = some (.one (.int k (k.wrap (BitVec.ofInt k.bits a ||| BitVec.ofInt k.bits b).toNat))) := by simp [binV, intBin]
theorem bin_xor : binV P .xor t (.one (.int k a)) (.one (.int k b)) = some (.one (.int k (k.wrap (BitVec.ofInt k.bits a ^^^ BitVec.ofInt k.bits b).toNat))) := by simp [binV, intBin]
theorem bin_eql : binV P .eql t (.one (.int k a)) (.one (.int k b)) = some (.one (.bool (a == b))) := by simp [binV, intBin]
theorem bin_neq : binV P .neq t (.one (.int k a)) (.one (.int k b)) = some (.one (.bool (a != b))) := by simp [binV, intBin]
theorem bin_lss : binV P .lss t (.one (.int k a)) (.one (.int k b)) = some (.one (.bool (decide (a < b)))) := by simp [binV, intBin]
theorem bin_leq : binV P .leq t (.one (.int k a)) (.one (.int k b)) = some (.one (.bool (decide (a ≤ b)))) := by simp [binV, intBin]
theorem bin_gtr : binV P .gtr t (.one (.int k a)) (.one (.int k b)) = some (.one (.bool (decide (a > b)))) := by simp [binV, intBin]
theorem bin_geq : binV P .geq t (.one (.int k a)) (.one (.int k b)) = some (.one (.bool (decide (a ≥ b)))) := by simp [binV, intBin]
theorem bin_shl (k' : IntKind) : binV P .shl t (.one (.int k a)) (.one (.int k' b)) = if b < 0 then none else some (.one (.int k (k.wrap (a * 2 ^ (min b.toNat k.bits))))) := rfl
theorem bin_shr (k' : IntKind) : binV P .shr t (.one (.int k a)) (.one (.int k' b)) = if b < 0 then none else some (.one (.int k (a.fdiv (2 ^ (min b.toNat k.bits))))) := rfl
variable (x y : List UInt8)
theorem str_eql : binV P .eql t (.one (.str x)) (.one (.str y)) = some (.one (.bool (x == y))) := by simp [binV, strBin]
theorem str_neq : binV P .neq t (.one (.str x)) (.one (.str y)) = some (.one (.bool (!(x == y)))) := by simp [binV, strBin]
theorem str_lss : binV P .lss t (.one (.str x)) (.one (.str y)) = some (.one (.bool (Op.bytesLess x y))) := by simp [binV, strBin]
theorem str_add : binV P .add t (.one (.str x)) (.one (.str y)) = if x.length + y.length ≤ 9223372036854775807 then some (.one (.str (x ++ y))) else none := by
  simp only [binV, strBin]; split <;> rfl
end

theorem rangeOf_fn {P : Program} {K : List (Nat × Kd)} (gf : Nat) (es : List (List Leaf)) : rangeOf P K true (.one (.fn gf [.iptr [.isl es] 0])) = match itOf gf K with
    | some b => itRows P b es
    | none => none := rfl

theorem get_zero {α : Type} (x : α) (l : List α) : (x :: l)[0]? = some x := rfl
theorem get_succ {α : Type} (x : α) (l : List α) (n : Nat) : (x :: l)[n + 1]? = l[n]? := rfl

theorem nat_beq_ne {a b : Nat} (h : a ≠ b) : (a == b) = false := by simp [h]

attribute [simp] isR_it killT_it kdIds_it kdNew_it run_rangeFunc rangeK_some bodyR_normal endR_normal endR_exit endR_ret setAll_cons setAll_nil rangeOf_fn flatC hasR_nil hasR_cons isR_p isR_s isR_b isR_b2 isR_m isR_r isR_x killT_nil killT_p killT_s killT_b killT_b2 killT_m killT_r killT_x atRK_false atRK_true cir_call readK_some backK_some scalarV scalarV0 scalarL nat_beq_ne get_zero get_succ run_skip run_seq run_region run_draw run_cond run_block run_loop run_exit run_ret run_label run_goto run_scope
  seqK_normal seqK_exit seqK_goto seqK_ret blockK_normal blockK_ret blockK_goto blockK_exit condK_true condK_false regionK_some tidyR_some_eq scopeK_normal scopeK_ret scopeK_exit
  ops_nil ops_cons opK_some op_move op_assign op_bin op_un op_convert op_indexAddr op_index op_fieldAddr op_field op_load op_len op_append op_call pureR_one ev_tmp ev_const set_some set_none finish_ret finish_normal
  quiet_nil quiet_cons quiet_guard ops_guard quietG_false quietG_true opsG_false opsG_true quietK_some wantG_bool wantG_tup wantD_some dstAt_zero dstAt_succ quietPick_some
  row_at0 row_at row_zero row_succ set_at0 set_at op_box boxK_one boxK_agg op_alloc allocK op_store op_build op_extract extractK op_pick pick_true pick_false op_buildSlice
  len_isl len_nils len_zsl len_sl len_str idx_isl idx_sl index_str rd_ptr rd_iptr loadK_one mkV_one mkV_agg field_ptr field_iptr field_agg partV_eq partK_one partK_agg cut_cons0 cut_zero cut_succ wr_ptr put_cells0 put_cellsS put_cells_nil
  srcOf_eq srcK view_isl view_nils view_zsl view_sl viewK appK appN storeK
  nthP fillK eqInfo eqLf eql_agg neq_agg eql_bool neq_bool eqLeaf_iptr eqLeaf_ptr eqLeaf_nilp eql_nilp neq_nilp eqLeaf_bool
  sized_nil sized_cons sized_append plainC_nil plainC_cons plainR_nil plainR_cons plainR_append plainL treeC_nil treeC_cons treeR_nil treeR_cons treeR_append treeL normV normV0 normL
  fzRows_true fzRowsL_true fzCells_true appO_some consO_some mapO_nil mapO_cons fzRows_app fzCells_nil fzCells_cons fzT_sl fzT_ptr fzT_map fzT_junk refK_some refK_none toId_sl toId_ptr toId_map wholeK fzL_whole
  placeAt_nil placeAt_none_cons placeAt_some_cons placeOf_eq offK_some offK_none goes_eq okL_nil okL_none okL_cons ownId_sl ownId_ptr ownId_map ownId_isl ownId_nils ownId_zsl ownId_int ownId_bool ownId_str ownId_iptr ownId_nilp ownId_nilm ownId_nilf ownId_junk
  rootOf_one rootOf_agg rootOf_tup rootOf_junk kdL_nil kdL_cons kdIds_p kdIds_m kdIds_s kdIds_b inside_nil inside_none inside_some insideK_row cellIds_nil cellIds_zero cellIds_succ heap_at0 heap_at nthO
  bothK_some kdNew_p kdNew_m kdNew_b kdNew_s_nils kdNew_s_sl kdNew_s_isl kdNew_s_junk kdNew_s_zsl root_none oneK_some root_flat objOf_none objOf_some objK_row root_deep rootK_row newRows_nil newRows_one pairK_some cellK_some doneK_some newCells_nil newCells_end newCells_zero newCells_nils newCells_sl newCells_isl
  kdIds_x kdNew_x kdAll_nil kdAll_cons allK_some joinK_some fzV_one fzV_agg fzV_tup fzV_junk fzV0_one fzV0_agg wsOf_nil fzH_nil tidy_eq tidyK_some wsOf_cons wrapC_eq wrapK_some wrapUp_zero wrapUp_one

theorem fzT_int {h : Heap} {n0 : Nat} {L : List (Option Nat)} (k : IntKind) (n : Int) : fzT h n0 L (.int k n) = some (.int k n) := rfl
theorem fzT_bool {h : Heap} {n0 : Nat} {L : List (Option Nat)} (b : Bool) : fzT h n0 L (.bool b) = some (.bool b) := rfl
theorem fzT_str {h : Heap} {n0 : Nat} {L : List (Option Nat)} (s : List UInt8) : fzT h n0 L (.str s) = some (.str s) := rfl
theorem fzT_isl {h : Heap} {n0 : Nat} {L : List (Option Nat)} (es : List (List Leaf)) : fzT h n0 L (.isl es) = some (.isl es) := rfl
theorem fzT_iptr {h : Heap} {n0 : Nat} {L : List (Option Nat)} (cs : List Leaf) (off : Nat) : fzT h n0 L (.iptr cs off) = some (.iptr cs off) := rfl
theorem fzT_nils {h : Heap} {n0 : Nat} {L : List (Option Nat)} : fzT h n0 L .nils = some .nils := rfl
theorem fzT_zsl {h : Heap} {n0 : Nat} {L : List (Option Nat)} : fzT h n0 L .zsl = some .zsl := rfl
theorem fzT_nilp {h : Heap} {n0 : Nat} {L : List (Option Nat)} : fzT h n0 L .nilp = some .nilp := rfl
theorem fzT_nilm {h : Heap} {n0 : Nat} {L : List (Option Nat)} : fzT h n0 L .nilm = some .nilm := rfl
theorem fzT_nilf {h : Heap} {n0 : Nat} {L : List (Option Nat)} : fzT h n0 L .nilf = some .nilf := rfl
attribute [simp] fzT_int fzT_bool fzT_str fzT_isl fzT_iptr fzT_nils fzT_zsl fzT_nilp fzT_nilm fzT_nilf loopAt nthC loops tget_cons resOf resV tget argT ofConstV ofConst unV bin_add bin_sub bin_mul bin_quo bin_rem bin_and bin_or bin_xor bin_eql bin_neq bin_lss bin_leq bin_gtr bin_geq bin_shl bin_shr str_eql str_neq str_lss str_add rows_eq rowsL_eq cells_eq List.take_left
end Go.Proofs.YtkbdhjfjbkmkcaaGreat.Abs
