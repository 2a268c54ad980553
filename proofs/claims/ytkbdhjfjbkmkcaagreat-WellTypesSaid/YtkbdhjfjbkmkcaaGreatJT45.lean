/- The abstract machine, run by the kernel: calls that are known already are looked up. -/
import Derived.Test.YtkbdhjfjbkmkcaaGreatJT27
set_option linter.unusedSimpArgs false
set_option linter.unusedVariables false
namespace Go.Proofs.YtkbdhjfjbkmkcaaGreat.Abs
open Go Go.RowKit

mutual
def sameL : Leaf → Leaf → Bool
  | .bool a, .bool b => a == b
  | .int j a, .int k b => decide (j = k) && decide (a = b)
  | .str a, .str b => decide (a = b)
  | .nilp, .nilp => true
  | .ptr a b c d, .ptr a' b' c' d' => Nat.beq a a' && Nat.beq b b' && Nat.beq c c' && Nat.beq d d'
  | .iptr cs o, .iptr cs' o' => sameLs cs cs' && Nat.beq o o'
  | .nils, .nils => true
  | .zsl, .zsl => true
  | .sl a b c d e, .sl a' b' c' d' e' => Nat.beq a a' && Nat.beq b b' && Nat.beq c c' && Nat.beq d d' && Nat.beq e e'
  | .isl es, .isl es' => sameRs es es'
  | .nilm, .nilm => true
  | .map a, .map b => Nat.beq a b
  | .nilf, .nilf => true
  | .fn f cs, .fn g cs' => Nat.beq f g && sameLs cs cs'
  | .junk, .junk => true
  | .imap ks g rs, .imap ks' g' rs' => sameLs ks ks' && (g == g') && sameRs rs rs'
  | _, _ => false
def sameLs : List Leaf → List Leaf → Bool
  | [], [] => true
  | a :: as, b :: bs => sameL a b && sameLs as bs
  | _, _ => false
def sameRs : List (List Leaf) → List (List Leaf) → Bool
  | [], [] => true
  | a :: as, b :: bs => sameLs a b && sameRs as bs
  | _, _ => false
end
mutual
theorem sameL_eq : ∀ (a b : Leaf), sameL a b = true → a = b
  | .bool a, b, h => by cases b <;> simp [sameL] at h; rw [h]
  | .int j a, b, h => by cases b <;> simp [sameL] at h; rw [h.1, h.2]
  | .str a, b, h => by cases b <;> simp [sameL] at h; rw [h]
  | .nilp, b, h => by cases b <;> simp [sameL] at h; rfl
  | .ptr a b c d, x, h => by cases x <;> simp [sameL] at h; rw [h.1.1.1, h.1.1.2, h.1.2, h.2]
  | .iptr cs o, x, h => by cases x <;> simp [sameL] at h; rw [sameLs_eq cs _ h.1, h.2]
  | .nils, b, h => by cases b <;> simp [sameL] at h; rfl
  | .zsl, b, h => by cases b <;> simp [sameL] at h; rfl
  | .sl a b c d e, x, h => by cases x <;> simp [sameL] at h; rw [h.1.1.1.1, h.1.1.1.2, h.1.1.2, h.1.2, h.2]
  | .isl es, x, h => by cases x <;> simp [sameL] at h; rw [sameRs_eq es _ h]
  | .nilm, b, h => by cases b <;> simp [sameL] at h; rfl
  | .map a, b, h => by cases b <;> simp [sameL] at h; rw [h]
  | .nilf, b, h => by cases b <;> simp [sameL] at h; rfl
  | .fn f cs, x, h => by cases x <;> simp [sameL] at h; rw [h.1, sameLs_eq cs _ h.2]
  | .junk, b, h => by cases b <;> simp [sameL] at h; rfl
  | .imap ks g rs, b, h => by cases b <;> simp [sameL] at h; rw [sameLs_eq ks _ h.1.1, h.1.2, sameRs_eq rs _ h.2]
theorem sameLs_eq : ∀ (a b : List Leaf), sameLs a b = true → a = b
  | [], b, h => by cases b <;> simp [sameLs] at h; rfl
  | a :: as, b, h => by
    cases b with
    | nil => simp [sameLs] at h
    | cons b bs => simp [sameLs] at h; rw [sameL_eq a b h.1, sameLs_eq as bs h.2]
theorem sameRs_eq : ∀ (a b : List (List Leaf)), sameRs a b = true → a = b
  | [], b, h => by cases b <;> simp [sameRs] at h; rfl
  | a :: as, b, h => by
    cases b with
    | nil => simp [sameRs] at h
    | cons b bs => simp [sameRs] at h; rw [sameLs_eq a b h.1, sameRs_eq as bs h.2]
end
mutual
def sameV : V → V → Bool
  | .junk, .junk => true
  | .one a, .one b => sameL a b
  | .agg a, .agg b => sameLs a b
  | .tup a, .tup b => sameVs a b
  | _, _ => false
def sameVs : List V → List V → Bool
  | [], [] => true
  | a :: as, b :: bs => sameV a b && sameVs as bs
  | _, _ => false
end
mutual
theorem sameV_eq : ∀ (a b : V), sameV a b = true → a = b
  | .junk, b, h => by cases b <;> simp [sameV] at h; rfl
  | .one a, b, h => by cases b <;> simp [sameV] at h; rw [sameL_eq a _ h]
  | .agg a, b, h => by cases b <;> simp [sameV] at h; rw [sameLs_eq a _ h]
  | .tup a, b, h => by cases b <;> simp [sameV] at h; rw [sameVs_eq a _ h]
theorem sameVs_eq : ∀ (a b : List V), sameVs a b = true → a = b
  | [], b, h => by cases b <;> simp [sameVs] at h; rfl
  | a :: as, b, h => by
    cases b with
    | nil => simp [sameVs] at h
    | cons b bs => simp [sameVs] at h; rw [sameV_eq a b h.1, sameVs_eq as bs h.2]
end
def sameEs : List (Leaf × V × Nat) → List (Leaf × V × Nat) → Bool
  | [], [] => true
  | a :: as, b :: bs => sameL a.1 b.1 && sameV a.2.1 b.2.1 && Nat.beq a.2.2 b.2.2 && sameEs as bs
  | _, _ => false
theorem sameEs_eq : ∀ {a b : List (Leaf × V × Nat)}, sameEs a b = true → a = b
  | [], b, h => by cases b <;> simp [sameEs] at h; rfl
  | a :: as, b, h => by
    cases b with
    | nil => simp [sameEs] at h
    | cons b bs =>
      obtain ⟨a1, a2, a3⟩ := a
      obtain ⟨b1, b2, b3⟩ := b
      simp [sameEs] at h
      rw [sameL_eq _ _ h.1.1.1, sameV_eq _ _ h.1.1.2, h.1.2, sameEs_eq h.2]
def sameO : Option AO → Option AO → Bool
  | none, none => true
  | some (.row z es), some (.row z' es') => Nat.beq z z' && sameRs es es'
  | some (.mp c es), some (.mp c' es') => Nat.beq c c' && sameEs es es'
  | _, _ => false
theorem sameO_eq {a b : Option AO} (h : sameO a b = true) : a = b := by
  unfold sameO at h
  split at h
  · rfl
  · simp at h; rw [h.1, sameRs_eq _ _ h.2]
  · simp at h; rw [h.1, sameEs_eq h.2]
  · cases h
def sameH : Heap → Heap → Bool
  | [], [] => true
  | a :: as, b :: bs => sameO a b && sameH as bs
  | _, _ => false
theorem sameH_eq : ∀ {a b : Heap}, sameH a b = true → a = b
  | [], b, h => by cases b <;> simp [sameH] at h; rfl
  | a :: as, b, h => by
    cases b with
    | nil => simp [sameH] at h
    | cons b bs => simp [sameH] at h; rw [sameO_eq h.1, sameH_eq h.2]
def sameR : Option (V × Heap × List Nat) → V × Heap × List Nat → Bool
  | some r, s => sameV r.1 s.1 && sameH r.2.1 s.2.1 && decide (r.2.2 = s.2.2)
  | none, _ => false
theorem sameR_eq {r : Option (V × Heap × List Nat)} {s : V × Heap × List Nat} (h : sameR r s = true) : r = some s := by
  cases r with
  | none => simp [sameR] at h
  | some r =>
    obtain ⟨a, b, c⟩ := r
    obtain ⟨a', b', c'⟩ := s
    simp [sameR] at h
    rw [sameV_eq _ _ h.1.1, sameH_eq h.1.2, h.2]

abbrev Tab := List (FuncId × List V × Heap × (V × Heap × List Nat))
def look : Tab → FuncId → List V → Heap → Option (V × Heap × List Nat)
  | [], _, _, _ => none
  | e :: t, f, args, h => if Nat.beq e.1 f && sameVs e.2.1 args && sameH e.2.2.1 h then some e.2.2.2 else look t f args h
theorem look_some : ∀ {t : Tab} {f : FuncId} {args : List V} {h : Heap} {r : V × Heap × List Nat}, look t f args h = some r → (f, args, h, r) ∈ t
  | [], _, _, _, _, e => by cases e
  | x :: t, f, args, h, r, e => by
    unfold look at e
    split at e
    · rename_i hc
      simp at hc
      cases e
      have h1 := hc.1.1
      have h2 := sameVs_eq _ _ hc.1.2
      have h3 := sameH_eq hc.2
      subst h1; subst h2; subst h3
      exact List.mem_cons_self
    · exact List.mem_cons_of_mem _ (look_some e)

def absCallT (P : Program) (C : Cfg) (tab : Tab) : Nat → CF
  | 0, _, _, _ => none
  | n + 1, f, args, h =>
    match look tab f args h with
    | some r => some r
    | none => match C.told f args with
    | some v => some (v, h, [])
    | none => match P.funcs[f]? with
      | none => none
      | some fn => match fn.body with
        | none => none
        | some body =>
          match absCode P (cfR C.read (absCallT P C tab n)) (absScope P (cfR C.read (absCallT P C tab n)) n (max fn.ntmps args.length) h.length (C.live f) n) n (max fn.ntmps args.length) h.length (C.live f) body ⟨argT 0 args, h, []⟩ with
          | some (.normal, s) => (resOf P s.tmps s.heap fn.results.toList).map fun vs => wrapUp (C.keep f) h.length (resV vs) s.heap s.ws
          | some (.ret, s) => (resOf P s.tmps s.heap fn.results.toList).map fun vs => wrapUp (C.keep f) h.length (resV vs) s.heap s.ws
          | _ => none

def TabOK (P : Program) (C : Cfg) (N : Nat) (tab : Tab) : Prop := ∀ e, e ∈ tab → absCall P C N e.1 e.2.1 e.2.2.1 = some e.2.2.2
theorem absCallT_le {P : Program} {C : Cfg} {tab : Tab} {N : Nat} (ht : TabOK P C N tab) : ∀ n, Le (absCallT P C tab n) (absCall P C (N + n))
  | 0 => fun f args h r e => by cases e
  | n + 1 => fun f args h r e => by
    unfold absCallT at e
    split at e
    · rename_i r' hr
      cases e
      exact absCall_le N (N + (n + 1)) (by omega) _ _ _ _ (ht _ (look_some hr))
    · have ih := cfR_le (rd := C.read) (absCallT_le ht n)
      show absCall P C (N + n + 1) f args h = some r
      cases hto : C.told f args with
      | some v0 =>
        rw [hto] at e
        simp only [absCall, hto]
        exact e
      | none =>
      rw [hto] at e
      simp only at e
      unfold absCall
      rw [hto]
      simp only
      cases hf : P.funcs[f]? with
      | none => rw [hf] at e; cases e
      | some fn =>
        rw [hf] at e
        simp only at e ⊢
        cases hb : fn.body with
        | none => rw [hb] at e; cases e
        | some body =>
          rw [hb] at e
          simp only at e ⊢
          split at e
          · rename_i s1 hs
            rw [absCode_le (m := N + n) ih (by omega) (absScope_le (m := N + n) ih (by omega) n (N + n) (by omega)) body _ _ hs]; exact e
          · rename_i s1 hs
            rw [absCode_le (m := N + n) ih (by omega) (absScope_le (m := N + n) ih (by omega) n (N + n) (by omega)) body _ _ hs]; exact e
          · cases e
theorem TabOK.nil (P : Program) (C : Cfg) : TabOK P C 0 [] := fun e he => by simp at he
theorem TabOK.add {P : Program} {C : Cfg} {tab : Tab} {N n : Nat} (ht : TabOK P C N tab) {f : FuncId} {args : List V} {h : Heap} {r : V × Heap × List Nat} (e : sameR (absCallT P C tab n f args h) r = true) : TabOK P C (N + n) ((f, args, h, r) :: tab) := by
  intro x hx
  rcases List.mem_cons.1 hx with rfl | hx
  · exact absCallT_le ht n _ _ _ _ (sameR_eq e)
  · exact absCall_le N (N + n) (by omega) _ _ _ _ (ht x hx)
theorem TabOK.get {P : Program} {C : Cfg} {tab : Tab} {N : Nat} (ht : TabOK P C N tab) {f : FuncId} {args : List V} {h : Heap} {r : V × Heap × List Nat} (e : look tab f args h = some r) : CI P C f args h = some r := CI_run N (ht _ (look_some e))
end Go.Proofs.YtkbdhjfjbkmkcaaGreat.Abs
