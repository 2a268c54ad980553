/- The abstract machine, told anew for the kernel: what it computes is handed on, cell by cell. Data. -/
import Derived.Test.YtkbdhjfjbkmkcaaGreatJT45
set_option linter.unusedSimpArgs false
set_option linter.unusedVariables false
namespace Go.Proofs.YtkbdhjfjbkmkcaaGreat.Abs.Fast
open Go Go.RowKit

abbrev RR := Option (V × Heap × List Nat)
abbrev K3 := V → Heap → List Nat → RR
abbrev KS := Tmps → Heap → List Nat → RR
abbrev KX := AX → Tmps → Heap → List Nat → RR

def Hands {α : Type} (o : Option α) (f : (α → RR) → RR) : Prop := ∀ k r, f k = some r → ∃ a, o = some a ∧ k a = some r
/-! Numbers. -/
noncomputable def natK (n : Nat) (k : Nat → RR) : RR := @Nat.rec (fun _ => RR) (k 0) (fun p _ => k (Nat.succ p)) n
theorem natK_eq (n : Nat) (k : Nat → RR) : natK n k = k n := by cases n <;> rfl
noncomputable def intK (n : Int) (k : Int → RR) : RR := @Int.rec (fun _ => RR) (fun m => natK m fun m => k (.ofNat m)) (fun m => natK m fun m => k (.negSucc m)) n
theorem intK_eq (n : Int) (k : Int → RR) : intK n k = k n := by cases n <;> simp [intK, natK_eq]
noncomputable def boolK (b : Bool) (k : Bool → RR) : RR := @Bool.rec (fun _ => RR) (k false) (k true) b
theorem boolK_eq (b : Bool) (k : Bool → RR) : boolK b k = k b := by cases b <;> rfl
noncomputable def iteK (b : Bool) (x y : RR) : RR := @Bool.rec (fun _ => RR) y x b
@[simp] theorem iteK_true (x y : RR) : iteK true x y = x := rfl
@[simp] theorem iteK_false (x y : RR) : iteK false x y = y := rfl
theorem iteK_some {b : Bool} {x : RR} {r : V × Heap × List Nat} (e : iteK b x none = some r) : b = true ∧ x = some r := by
  cases b
  · cases e
  · exact ⟨rfl, e⟩

/-! Lists. -/
noncomputable def natsK : List Nat → (List Nat → RR) → RR := @List.rec Nat (fun _ => (List Nat → RR) → RR) (fun k => k []) (fun x _ ih k => natK x fun x => ih fun xs => k (x :: xs))
theorem natsK_eq : ∀ (l : List Nat) (k : List Nat → RR), natsK l k = k l
  | [], k => rfl
  | x :: xs, k => by
    show (natK x fun x => natsK xs fun xs => k (x :: xs)) = _
    rw [natK_eq, natsK_eq xs]
noncomputable def bytesK : List UInt8 → (List UInt8 → RR) → RR := @List.rec UInt8 (fun _ => (List UInt8 → RR) → RR) (fun k => k []) (fun x _ ih k => ih fun xs => k (x :: xs))
theorem bytesK_eq : ∀ (l : List UInt8) (k : List UInt8 → RR), bytesK l k = k l
  | [], k => rfl
  | x :: xs, k => by
    show (bytesK xs fun xs => k (x :: xs)) = _
    rw [bytesK_eq xs]
noncomputable def linksK : List Leaf → (List Leaf → RR) → RR := @List.rec Leaf (fun _ => (List Leaf → RR) → RR) (fun k => k []) (fun x _ ih k => ih fun xs => k (x :: xs))
theorem linksK_eq : ∀ (l : List Leaf) (k : List Leaf → RR), linksK l k = k l
  | [], k => rfl
  | x :: xs, k => by
    show (linksK xs fun xs => k (x :: xs)) = _
    rw [linksK_eq xs]
noncomputable def rowsK : List (List Leaf) → (List (List Leaf) → RR) → RR := @List.rec (List Leaf) (fun _ => (List (List Leaf) → RR) → RR) (fun k => k []) (fun x _ ih k => linksK x fun x => ih fun xs => k (x :: xs))
theorem rowsK_eq : ∀ (l : List (List Leaf)) (k : List (List Leaf) → RR), rowsK l k = k l
  | [], k => rfl
  | x :: xs, k => by
    show (linksK x fun x => rowsK xs fun xs => k (x :: xs)) = _
    rw [linksK_eq, rowsK_eq xs]
noncomputable def rowlK : List (List Leaf) → (List (List Leaf) → RR) → RR := @List.rec (List Leaf) (fun _ => (List (List Leaf) → RR) → RR) (fun k => k []) (fun x _ ih k => ih fun xs => k (x :: xs))
theorem rowlK_eq : ∀ (l : List (List Leaf)) (k : List (List Leaf) → RR), rowlK l k = k l
  | [], k => rfl
  | x :: xs, k => by
    show (rowlK xs fun xs => k (x :: xs)) = _
    rw [rowlK_eq xs]

/-! Cells, told to the end. -/
mutual
noncomputable def leafK : Leaf → (Leaf → RR) → RR
  | .bool b, k => boolK b fun b => k (.bool b)
  | .int j n, k => intK n fun n => k (.int j n)
  | .str s, k => bytesK s fun s => k (.str s)
  | .nilp, k => k .nilp
  | .ptr a b c d, k => natK a fun a => natK b fun b => natK c fun c => natK d fun d => k (.ptr a b c d)
  | .iptr cs o, k => leavesK cs fun cs => natK o fun o => k (.iptr cs o)
  | .nils, k => k .nils
  | .zsl, k => k .zsl
  | .sl a b c d e, k => natK a fun a => natK b fun b => natK c fun c => natK d fun d => natK e fun e => k (.sl a b c d e)
  | .isl es, k => leafrK es fun es => k (.isl es)
  | .nilm, k => k .nilm
  | .map a, k => natK a fun a => k (.map a)
  | .nilf, k => k .nilf
  | .fn f cs, k => natK f fun f => leavesK cs fun cs => k (.fn f cs)
  | .junk, k => k .junk
  | .imap ks g rs, k => leavesK ks fun ks => boolK g fun g => leafrK rs fun rs => k (.imap ks g rs)
noncomputable def leavesK : List Leaf → (List Leaf → RR) → RR
  | [], k => k []
  | x :: xs, k => leafK x fun x => leavesK xs fun xs => k (x :: xs)
noncomputable def leafrK : List (List Leaf) → (List (List Leaf) → RR) → RR
  | [], k => k []
  | x :: xs, k => leavesK x fun x => leafrK xs fun xs => k (x :: xs)
end
mutual
theorem leafK_eq : ∀ (l : Leaf) (k : Leaf → RR), leafK l k = k l
  | .bool b, k => by simp [leafK, boolK_eq]
  | .int j n, k => by simp [leafK, intK_eq]
  | .str s, k => by simp [leafK, bytesK_eq]
  | .nilp, k => by simp [leafK]
  | .ptr a b c d, k => by simp [leafK, natK_eq]
  | .iptr cs o, k => by simp [leafK, leavesK_eq cs, natK_eq]
  | .nils, k => by simp [leafK]
  | .zsl, k => by simp [leafK]
  | .sl a b c d e, k => by simp [leafK, natK_eq]
  | .isl es, k => by simp [leafK, leafrK_eq es]
  | .nilm, k => by simp [leafK]
  | .map a, k => by simp [leafK, natK_eq]
  | .nilf, k => by simp [leafK]
  | .fn f cs, k => by simp [leafK, leavesK_eq cs, natK_eq]
  | .junk, k => by simp [leafK]
  | .imap ks g rs, k => by simp [leafK, leavesK_eq ks, boolK_eq, leafrK_eq rs]
theorem leavesK_eq : ∀ (l : List Leaf) (k : List Leaf → RR), leavesK l k = k l
  | [], k => by simp [leavesK]
  | x :: xs, k => by simp [leavesK, leafK_eq x, leavesK_eq xs]
theorem leafrK_eq : ∀ (l : List (List Leaf)) (k : List (List Leaf) → RR), leafrK l k = k l
  | [], k => by simp [leafrK]
  | x :: xs, k => by simp [leafrK, leavesK_eq x, leafrK_eq xs]
end

/-! Eliminators. -/
noncomputable def optK {α : Type} (o : Option α) (k : α → RR) : RR := @Option.rec α (fun _ => RR) none k o
theorem optK_hands {α : Type} (o : Option α) : Hands o (optK o) := fun k r e => by
  cases o with
  | none => cases e
  | some a => exact ⟨a, rfl, e⟩
noncomputable def vK (v : V) (kj : RR) (ko : Leaf → RR) (ka : List Leaf → RR) (kt : List V → RR) : RR :=
  @V.rec (fun _ => RR) (fun _ => Unit) kj ko ka (fun vs _ => kt vs) () (fun _ _ _ _ => ()) v
@[simp] theorem vK_junk (kj : RR) (ko ka kt) : vK .junk kj ko ka kt = kj := rfl
@[simp] theorem vK_one (l : Leaf) (kj : RR) (ko ka kt) : vK (.one l) kj ko ka kt = ko l := rfl
@[simp] theorem vK_agg (cs : List Leaf) (kj : RR) (ko ka kt) : vK (.agg cs) kj ko ka kt = ka cs := rfl
@[simp] theorem vK_tup (vs : List V) (kj : RR) (ko ka kt) : vK (.tup vs) kj ko ka kt = kt vs := rfl
noncomputable def oneK (v : V) (k : Leaf → RR) : RR := @V.rec (fun _ => RR) (fun _ => Unit) none k (fun _ => none) (fun _ _ => none) () (fun _ _ _ _ => ()) v
theorem oneK_some {v : V} {k : Leaf → RR} {r} (e : oneK v k = some r) : ∃ l, v = .one l ∧ k l = some r := by
  cases v <;> first | (cases e; done) | exact ⟨_, rfl, e⟩
noncomputable def vfK (v : V) (k : V → RR) : RR := @V.rec (fun _ => RR) (fun _ => Unit) (k .junk) (fun l => k (.one l)) (fun cs => k (.agg cs)) (fun vs _ => k (.tup vs)) () (fun _ _ _ _ => ()) v
theorem vfK_eq (v : V) (k : V → RR) : vfK v k = k v := by cases v <;> rfl
noncomputable def lK (l : Leaf) (kb : Bool → RR) (ki : IntKind → Int → RR) (ks : List UInt8 → RR) (knp : RR) (kp : Nat → Nat → Nat → Nat → RR) (kip : List Leaf → Nat → RR) (kns kz : RR) (ksl : Nat → Nat → Nat → Nat → Nat → RR)
    (kisl : List (List Leaf) → RR) (knm : RR) (km : Nat → RR) (knf : RR) (kf : FuncId → List Leaf → RR) (kj : RR) (kim : List Leaf → Bool → List (List Leaf) → RR := fun _ _ _ => none) : RR :=
  @Leaf.rec (fun _ => RR) (fun _ => Unit) (fun _ => Unit) kb ki ks knp kp (fun cs o _ => kip cs o) kns kz ksl (fun es _ => kisl es) knm km knf (fun f cs _ => kf f cs) kj (fun ks g rs _ _ => kim ks g rs) () (fun _ _ _ _ => ()) () (fun _ _ _ _ => ()) l
noncomputable def ptrK (l : Leaf) (kp : Nat → Nat → Nat → Nat → RR) (kip : List Leaf → Nat → RR) : RR :=
  @Leaf.rec (fun _ => RR) (fun _ => Unit) (fun _ => Unit) (fun _ => none) (fun _ _ => none) (fun _ => none) none kp (fun cs o _ => kip cs o) none none (fun _ _ _ _ _ => none) (fun _ _ => none) none (fun _ => none) none (fun _ _ _ => none) none (fun _ _ _ _ _ => none) () (fun _ _ _ _ => ()) () (fun _ _ _ _ => ()) l
noncomputable def boolL (l : Leaf) (k : Bool → RR) : RR :=
  @Leaf.rec (fun _ => RR) (fun _ => Unit) (fun _ => Unit) k (fun _ _ => none) (fun _ => none) none (fun _ _ _ _ => none) (fun _ _ _ => none) none none (fun _ _ _ _ _ => none) (fun _ _ => none) none (fun _ => none) none (fun _ _ _ => none) none (fun _ _ _ _ _ => none) () (fun _ _ _ _ => ()) () (fun _ _ _ _ => ()) l
noncomputable def intL (l : Leaf) (k : IntKind → Int → RR) : RR :=
  @Leaf.rec (fun _ => RR) (fun _ => Unit) (fun _ => Unit) (fun _ => none) k (fun _ => none) none (fun _ _ _ _ => none) (fun _ _ _ => none) none none (fun _ _ _ _ _ => none) (fun _ _ => none) none (fun _ => none) none (fun _ _ _ => none) none (fun _ _ _ _ _ => none) () (fun _ _ _ _ => ()) () (fun _ _ _ _ => ()) l
theorem intL_some {l : Leaf} {k : IntKind → Int → RR} {r} (e : intL l k = some r) : ∃ j n, l = .int j n ∧ k j n = some r := by
  cases l <;> first | (cases e; done) | exact ⟨_, _, rfl, e⟩
noncomputable def strL (l : Leaf) (k : List UInt8 → RR) : RR :=
  @Leaf.rec (fun _ => RR) (fun _ => Unit) (fun _ => Unit) (fun _ => none) (fun _ _ => none) k none (fun _ _ _ _ => none) (fun _ _ _ => none) none none (fun _ _ _ _ _ => none) (fun _ _ => none) none (fun _ => none) none (fun _ _ _ => none) none (fun _ _ _ _ _ => none) () (fun _ _ _ _ => ()) () (fun _ _ _ _ => ()) l
theorem strL_some {l : Leaf} {k : List UInt8 → RR} {r} (e : strL l k = some r) : ∃ s, l = .str s ∧ k s = some r := by
  cases l <;> first | (cases e; done) | exact ⟨_, rfl, e⟩
noncomputable def fnL (l : Leaf) (k : FuncId → List Leaf → RR) : RR :=
  @Leaf.rec (fun _ => RR) (fun _ => Unit) (fun _ => Unit) (fun _ => none) (fun _ _ => none) (fun _ => none) none (fun _ _ _ _ => none) (fun _ _ _ => none) none none (fun _ _ _ _ _ => none) (fun _ _ => none) none (fun _ => none) none (fun f cs _ => k f cs) none (fun _ _ _ _ _ => none) () (fun _ _ _ _ => ()) () (fun _ _ _ _ => ()) l
noncomputable def numL (l : Leaf) (d : RR) (ki : IntKind → Int → RR) (ks : List UInt8 → RR) : RR :=
  @Leaf.rec (fun _ => RR) (fun _ => Unit) (fun _ => Unit) (fun _ => d) ki ks d (fun _ _ _ _ => d) (fun _ _ _ => d) d d (fun _ _ _ _ _ => d) (fun _ _ => d) d (fun _ => d) d (fun _ _ _ => d) d (fun _ _ _ _ _ => d) () (fun _ _ _ _ => ()) () (fun _ _ _ _ => ()) l
noncomputable def slL (l : Leaf) (d : RR) (ki : List (List Leaf) → RR) (ks : Nat → Nat → Nat → Nat → Nat → RR) : RR :=
  @Leaf.rec (fun _ => RR) (fun _ => Unit) (fun _ => Unit) (fun _ => none) (fun _ _ => none) (fun _ => none) none (fun _ _ _ _ => d) (fun _ _ _ => d) none none ks (fun es _ => ki es) none (fun _ => none) none (fun _ _ _ => none) none (fun _ _ _ _ _ => none) () (fun _ _ _ _ => ()) () (fun _ _ _ _ => ()) l
noncomputable def lenL' (l : Leaf) (d : RR) (kstr : List UInt8 → RR) (kz : RR) (ks : Nat → RR) (ki : List (List Leaf) → RR) : RR :=
  @Leaf.rec (fun _ => RR) (fun _ => Unit) (fun _ => Unit) (fun _ => none) (fun _ _ => none) kstr none (fun _ _ _ _ => none) (fun _ _ _ => none) kz kz (fun _ _ _ _ n => ks n) (fun es _ => ki es) d (fun _ => d) none (fun _ _ _ => none) none (fun _ _ _ _ _ => d) () (fun _ _ _ _ => ()) () (fun _ _ _ _ => ()) l
noncomputable def leaf1K (l : Leaf) (k : Leaf → RR) : RR :=
  lK l (fun b => boolK b fun b => k (.bool b)) (fun j n => intK n fun n => k (.int j n)) (fun s => bytesK s fun s => k (.str s)) (k .nilp) (fun a b c d => natK a fun a => natK b fun b => natK c fun c => natK d fun d => k (.ptr a b c d))
    (fun cs o => linksK cs fun cs => natK o fun o => k (.iptr cs o)) (k .nils) (k .zsl) (fun a b c d e => natK a fun a => natK b fun b => natK c fun c => natK d fun d => natK e fun e => k (.sl a b c d e))
    (fun es => rowlK es fun es => k (.isl es)) (k .nilm) (fun a => natK a fun a => k (.map a)) (k .nilf) (fun f cs => linksK cs fun cs => k (.fn f cs)) (k .junk) (fun ks g rs => linksK ks fun ks => boolK g fun g => rowsK rs fun rs => k (.imap ks g rs))
theorem leaf1K_eq (l : Leaf) (k : Leaf → RR) : leaf1K l k = k l := by
  cases l <;> simp only [leaf1K, lK, boolK_eq, intK_eq, bytesK_eq, natK_eq, linksK_eq, rowlK_eq, rowsK_eq]
noncomputable def leaf1sK : List Leaf → (List Leaf → RR) → RR := @List.rec Leaf (fun _ => (List Leaf → RR) → RR) (fun k => k []) (fun x _ ih k => leaf1K x fun x => ih fun xs => k (x :: xs))
theorem leaf1sK_eq : ∀ (l : List Leaf) (k : List Leaf → RR), leaf1sK l k = k l
  | [], k => rfl
  | x :: xs, k => by
    show (leaf1K x fun x => leaf1sK xs fun xs => k (x :: xs)) = _
    rw [leaf1K_eq, leaf1sK_eq xs]
noncomputable def v1K (v : V) (k : V → RR) : RR := vK v (k .junk) (fun l => leaf1K l fun l => k (.one l)) (fun cs => leaf1sK cs fun cs => k (.agg cs)) (fun vs => k (.tup vs))
theorem v1K_eq (v : V) (k : V → RR) : v1K v k = k v := by cases v <;> simp [v1K, leaf1K_eq, leaf1sK_eq]
noncomputable def v2K (v : V) (k : V → RR) : RR := vK v (k .junk) (fun l => leafK l fun l => k (.one l)) (fun cs => leavesK cs fun cs => k (.agg cs)) (fun vs => k (.tup vs))
theorem v2K_eq (v : V) (k : V → RR) : v2K v k = k v := by cases v <;> simp [v2K, leafK_eq, leavesK_eq]
noncomputable def vsK : List V → (List V → RR) → RR := @List.rec V (fun _ => (List V → RR) → RR) (fun k => k []) (fun x _ ih k => v2K x fun x => ih fun xs => k (x :: xs))
theorem vsK_eq : ∀ (l : List V) (k : List V → RR), vsK l k = k l
  | [], k => rfl
  | x :: xs, k => by
    show (v2K x fun x => vsK xs fun xs => k (x :: xs)) = _
    rw [v2K_eq, vsK_eq xs]
noncomputable def v3K (v : V) (k : V → RR) : RR := vK v (k .junk) (fun l => leafK l fun l => k (.one l)) (fun cs => leavesK cs fun cs => k (.agg cs)) (fun vs => vsK vs fun vs => k (.tup vs))
theorem v3K_eq (v : V) (k : V → RR) : v3K v k = k v := by cases v <;> simp [v3K, leafK_eq, leavesK_eq, vsK_eq]

/-! The heap. -/
noncomputable def entsK : List (Leaf × V × Nat) → (List (Leaf × V × Nat) → RR) → RR := @List.rec (Leaf × V × Nat) (fun _ => (List (Leaf × V × Nat) → RR) → RR) (fun k => k [])
  (fun x _ ih k => leafK x.1 fun a => v3K x.2.1 fun b => natK x.2.2 fun c => ih fun xs => k ((a, b, c) :: xs))
theorem entsK_eq : ∀ (l : List (Leaf × V × Nat)) (k : List (Leaf × V × Nat) → RR), entsK l k = k l
  | [], k => rfl
  | x :: xs, k => by
    show (leafK x.1 fun a => v3K x.2.1 fun b => natK x.2.2 fun c => entsK xs fun xs => k ((a, b, c) :: xs)) = _
    rw [leafK_eq, v3K_eq, natK_eq, entsK_eq xs]
noncomputable def aoK (o : AO) (k : AO → RR) : RR := @AO.rec (fun _ => RR) (fun e es => natK e fun e => rowsK es fun es => k (.row e es)) (fun c es => natK c fun c => entsK es fun es => k (.mp c es)) o
theorem aoK_eq (o : AO) (k : AO → RR) : aoK o k = k o := by cases o <;> simp [aoK, natK_eq, rowsK_eq, entsK_eq]
noncomputable def ao2K (o : AO) (k : AO → RR) : RR := @AO.rec (fun _ => RR) (fun e es => natK e fun e => leafrK es fun es => k (.row e es)) (fun c es => natK c fun c => entsK es fun es => k (.mp c es)) o
theorem ao2K_eq (o : AO) (k : AO → RR) : ao2K o k = k o := by cases o <;> simp [ao2K, natK_eq, leafrK_eq, entsK_eq]
noncomputable def heapK : Heap → (Heap → RR) → RR := @List.rec (Option AO) (fun _ => (Heap → RR) → RR) (fun k => k [])
  (fun x _ ih k => @Option.rec AO (fun _ => RR) (ih fun xs => k (none :: xs)) (fun o => ao2K o fun o => ih fun xs => k (some o :: xs)) x)
theorem heapK_eq : ∀ (h : Heap) (k : Heap → RR), heapK h k = k h
  | [], k => rfl
  | none :: xs, k => by
    show (heapK xs fun xs => k (none :: xs)) = _
    rw [heapK_eq xs]
  | some o :: xs, k => by
    show (ao2K o fun o => heapK xs fun xs => k (some o :: xs)) = _
    rw [ao2K_eq, heapK_eq xs]
noncomputable def lenF {α : Type} (l : List α) : Nat := @List.rec α (fun _ => Nat) 0 (fun _ _ ih => Nat.succ ih) l
theorem lenF_eq {α : Type} : ∀ (l : List α), lenF l = l.length
  | [] => rfl
  | x :: xs => by
    show Nat.succ (lenF xs) = _
    rw [lenF_eq xs]; rfl
noncomputable def nthK {α : Type} (l : List α) (n : Nat) (k : α → RR) : RR := @List.rec α (fun _ => Nat → RR) (fun _ => none) (fun x _ ih n => @Nat.rec (fun _ => RR) (k x) (fun p _ => ih p) n) l n
theorem nthK_hands {α : Type} : ∀ (l : List α) (n : Nat), Hands l[n]? (nthK l n)
  | [], n => fun k r e => by cases e
  | x :: xs, 0 => fun k r e => ⟨x, rfl, e⟩
  | x :: xs, n + 1 => fun k r e => by simpa using nthK_hands xs n k r e
noncomputable def objK (h : Heap) (id : Nat) (k : AO → RR) : RR := nthK h id fun o => optK o k
noncomputable def rowK (h : Heap) (id sz : Nat) (k : Nat → List (List Leaf) → RR) : RR :=
  nthK h id fun o => @Option.rec AO (fun _ => RR) none (fun o => @AO.rec (fun _ => RR) (fun e es => iteK (Nat.beq (lenF es) sz) (k e es) none) (fun _ _ => none) o) o
theorem rowK_some {h : Heap} {id sz : Nat} {k : Nat → List (List Leaf) → RR} {r} (e : rowK h id sz k = some r) : ∃ z es, rowAt h id sz = some (z, es) ∧ k z es = some r := by
  obtain ⟨o, h1, h2⟩ := nthK_hands h id _ _ e
  cases o with
  | none => cases h2
  | some o =>
    cases o with
    | row z es =>
      obtain ⟨h3, h4⟩ := iteK_some h2
      refine ⟨z, es, ?_, h4⟩
      rw [lenF_eq] at h3
      simp only [rowAt, h1, Nat.eq_of_beq_eq_true h3, if_true]
    | mp c es => cases h2

noncomputable def takeK : List Leaf → Nat → (List Leaf → RR) → RR := @List.rec Leaf (fun _ => Nat → (List Leaf → RR) → RR) (fun n k => @Nat.rec (fun _ => RR) (k []) (fun _ _ => none) n)
  (fun x _ ih n k => @Nat.rec (fun _ => RR) (k []) (fun p _ => ih p fun xs => k (x :: xs)) n)
theorem takeK_some : ∀ (l : List Leaf) (n : Nat) (k : List Leaf → RR) (r), takeK l n k = some r → n ≤ l.length ∧ k (l.take n) = some r
  | [], 0, k, r, e => ⟨Nat.le_refl _, e⟩
  | [], n + 1, k, r, e => by cases e
  | x :: xs, 0, k, r, e => ⟨Nat.zero_le _, e⟩
  | x :: xs, n + 1, k, r, e => by
    obtain ⟨h1, h2⟩ := takeK_some xs n _ r e
    exact ⟨by simpa using h1, h2⟩
noncomputable def cutK (l : List Leaf) (off n : Nat) (k : List Leaf → RR) : RR := @List.rec Leaf (fun _ => Nat → RR) (fun o => @Nat.rec (fun _ => RR) (takeK [] n k) (fun _ _ => none) o)
  (fun x xs ih o => @Nat.rec (fun _ => RR) (takeK (x :: xs) n k) (fun p _ => ih p) o) l off
theorem cutK_hands : ∀ (l : List Leaf) (off n : Nat), Hands (cut l off n) (cutK l off n)
  | [], 0, n => fun k r e => by
    obtain ⟨h1, h2⟩ := takeK_some [] n k r e
    exact ⟨_, by simp only [cut]; rw [if_pos (by simpa using h1)], by simpa using h2⟩
  | [], o + 1, n => fun k r e => by cases e
  | x :: xs, 0, n => fun k r e => by
    obtain ⟨h1, h2⟩ := takeK_some (x :: xs) n k r e
    exact ⟨_, by simp only [cut]; rw [if_pos (by simpa using h1)], by simpa using h2⟩
  | x :: xs, o + 1, n => fun k r e => by
    obtain ⟨a, h1, h2⟩ := cutK_hands xs o n k r e
    refine ⟨a, ?_, h2⟩
    simp only [cut] at h1 ⊢
    split at h1
    · rename_i hc
      rw [if_pos (by simp; omega), ← h1]; simp
    · cases h1
noncomputable def rdK (h : Heap) (l : Leaf) (n : Nat) (k : List Leaf → RR) : RR :=
  ptrK l (fun id sz i off => rowK h id sz fun _ es => nthK es i fun cs => cutK cs off n k) (fun cs off => cutK cs off n k)
theorem rdK_hands (h : Heap) (l : Leaf) (n : Nat) : Hands (rd h l n) (rdK h l n) := fun k r e => by
  cases l with
  | ptr id sz i off =>
    obtain ⟨z, es, h1, h2⟩ := rowK_some e
    obtain ⟨cs, h3, h4⟩ := nthK_hands es i _ _ h2
    obtain ⟨a, h5, h6⟩ := cutK_hands cs off n _ _ h4
    exact ⟨a, by simp [rd, h1, h3, h5], h6⟩
  | iptr cs off => exact cutK_hands cs off n k r e
  | _ => cases e

noncomputable def overK : List Leaf → List Leaf → (List Leaf → RR) → RR := @List.rec Leaf (fun _ => List Leaf → (List Leaf → RR) → RR) (fun cs k => k cs)
  (fun x _ ih cs k => @List.rec Leaf (fun _ => RR) none (fun _ cs _ => ih cs fun r => k (x :: r)) cs)
theorem overK_some : ∀ (new cs : List Leaf) (k : List Leaf → RR) (r), overK new cs k = some r → new.length ≤ cs.length ∧ k (new ++ cs.drop new.length) = some r
  | [], cs, k, r, e => ⟨Nat.zero_le _, e⟩
  | x :: xs, [], k, r, e => by cases e
  | x :: xs, c :: cs, k, r, e => by
    obtain ⟨h1, h2⟩ := overK_some xs cs _ r e
    exact ⟨by simpa using h1, by simpa using h2⟩
noncomputable def putK (cs : List Leaf) (off : Nat) (new : List Leaf) (k : List Leaf → RR) : RR := @List.rec Leaf (fun _ => Nat → (List Leaf → RR) → RR) (fun o k => @Nat.rec (fun _ => RR) (overK new [] k) (fun _ _ => none) o)
  (fun x xs ih o k => @Nat.rec (fun _ => RR) (overK new (x :: xs) k) (fun p _ => ih p fun r => k (x :: r)) o) cs off k
theorem putK_some : ∀ (cs : List Leaf) (off : Nat) (new : List Leaf) (k : List Leaf → RR) (r), putK cs off new k = some r → off + new.length ≤ cs.length ∧ k (putCells cs off new) = some r
  | [], 0, new, k, r, e => by
    obtain ⟨h1, h2⟩ := overK_some new [] k r e
    exact ⟨by simpa using h1, by simpa [putCells] using h2⟩
  | [], o + 1, new, k, r, e => by cases e
  | x :: xs, 0, new, k, r, e => by
    obtain ⟨h1, h2⟩ := overK_some new (x :: xs) k r e
    exact ⟨by simpa using h1, by simpa [putCells] using h2⟩
  | x :: xs, o + 1, new, k, r, e => by
    obtain ⟨h1, h2⟩ := putK_some xs o new _ r e
    refine ⟨by simp; omega, ?_⟩
    have : putCells (x :: xs) (o + 1) new = x :: putCells xs o new := by simp [putCells, Nat.add_right_comm o 1]
    rw [this]; exact h2
noncomputable def modK {α : Type} (l : List α) (n : Nat) (f : α → (α → RR) → RR) (k : List α → RR) : RR := @List.rec α (fun _ => Nat → (List α → RR) → RR) (fun _ _ => none)
  (fun x xs ih n k => @Nat.rec (fun _ => RR) (f x fun y => k (y :: xs)) (fun p _ => ih p fun r => k (x :: r)) n) l n k
theorem modK_some {α : Type} (f : α → (α → RR) → RR) : ∀ (l : List α) (n : Nat) (k : List α → RR) (r), modK l n f k = some r → ∃ x, l[n]? = some x ∧ (f x fun y => k (l.set n y)) = some r
  | [], n, k, r, e => by cases e
  | x :: xs, 0, k, r, e => ⟨x, rfl, e⟩
  | x :: xs, n + 1, k, r, e => by
    obtain ⟨y, h1, h2⟩ := modK_some f xs n _ r e
    exact ⟨y, by simpa using h1, h2⟩
noncomputable def wrObj (sz i off : Nat) (new : List Leaf) (o : Option AO) (kk : Option AO → RR) : RR := @Option.rec AO (fun _ => RR) none (fun o => @AO.rec (fun _ => RR) (fun z es => iteK (Nat.beq (lenF es) sz) (modK es i (fun cs kk => putK cs off new kk) fun es => kk (some (.row z es))) none) (fun _ _ => none) o) o
noncomputable def wrK (h : Heap) (l : Leaf) (new : List Leaf) (k : Heap → List Nat → RR) : RR :=
  ptrK l (fun id sz i off => modK h id (wrObj sz i off new) fun h => k h [id]) (fun _ _ => none)
theorem wrK_some {h : Heap} {l : Leaf} {new : List Leaf} {k : Heap → List Nat → RR} {r} (e : wrK h l new k = some r) : ∃ h' ws, wr h l new = some (h', ws) ∧ k h' ws = some r := by
  cases l with
  | ptr id sz i off =>
    have e1 : modK h id (wrObj sz i off new) (fun h => k h [id]) = some r := e
    obtain ⟨o, h1, h2⟩ := modK_some _ _ _ _ _ e1
    cases o with
    | none => cases h2
    | some o =>
      cases o with
      | mp c es => cases h2
      | row z es =>
        obtain ⟨h3, h4⟩ := iteK_some h2
        obtain ⟨cs, h5, h6⟩ := modK_some _ _ _ _ _ h4
        obtain ⟨h7, h8⟩ := putK_some _ _ _ _ _ h6
        rw [lenF_eq] at h3
        have hr : rowAt h id sz = some (z, es) := by simp only [rowAt, h1, Nat.eq_of_beq_eq_true h3, if_true]
        exact ⟨_, _, by simp [wr, hr, h5, h7], h8⟩
  | _ => cases e
noncomputable def appHK : Heap → Nat → AO → (Nat → Heap → RR) → RR := @List.rec (Option AO) (fun _ => Nat → AO → (Nat → Heap → RR) → RR) (fun n o k => natK n fun n => k n [some o]) (fun x _ ih n o k => ih (Nat.succ n) o fun i h => k i (x :: h))
theorem appHK_eq : ∀ (h : Heap) (n : Nat) (o : AO) (k : Nat → Heap → RR), appHK h n o k = k (n + h.length) (h ++ [some o])
  | [], n, o, k => by show natK n (fun n => k n [some o]) = _; rw [natK_eq]; rfl
  | x :: xs, n, o, k => by
    show (appHK xs (Nat.succ n) o fun i h => k i (x :: h)) = _
    rw [appHK_eq xs]
    simp only [List.length_cons, List.cons_append, Nat.succ_add, Nat.add_succ]
noncomputable def appNK : List Nat → List Nat → (List Nat → RR) → RR := @List.rec Nat (fun _ => List Nat → (List Nat → RR) → RR) (fun b k => k b) (fun x _ ih b k => ih b fun r => k (x :: r))
theorem appNK_eq : ∀ (a b : List Nat) (k : List Nat → RR), appNK a b k = k (a ++ b)
  | [], b, k => rfl
  | x :: xs, b, k => by
    show (appNK xs b fun r => k (x :: r)) = _
    rw [appNK_eq xs]; rfl
noncomputable def wsK (w ws : List Nat) (k : List Nat → RR) : RR := @List.rec Nat (fun _ => RR) (k w) (fun x xs _ => appNK w (x :: xs) k) ws
theorem wsK_eq (w ws : List Nat) (k : List Nat → RR) : wsK w ws k = k (w ++ ws) := by
  cases ws with
  | nil => simp [wsK]
  | cons x xs => show appNK w (x :: xs) k = _; rw [appNK_eq]

/-! Temporaries. -/
noncomputable def tgetF (t : Tmps) (i : Nat) : V := @List.rec (Nat × V) (fun _ => V) .junk (fun p _ ih => @Prod.rec Nat V (fun _ => V) (fun j v => @Bool.rec (fun _ => V) ih v (Nat.beq j i)) p) t
theorem tgetF_eq : ∀ (t : Tmps) (i : Nat), tgetF t i = tget t i
  | [], i => rfl
  | (j, v) :: t, i => by
    show @Bool.rec (fun _ => V) (tgetF t i) v (Nat.beq j i) = _
    unfold tget
    simp only
    cases Nat.beq j i with
    | true => rfl
    | false => exact tgetF_eq t i
noncomputable def evF (t : Tmps) (x : Operand) : V := @Operand.rec (fun _ => V) (fun i => tgetF t i) (fun v => ofConstV v) (fun _ => .junk) (fun f => .one (.fn f [])) x
theorem evF_eq (t : Tmps) (x : Operand) : evF t x = ev t x := by
  cases x with
  | tmp i => exact tgetF_eq t i
  | _ => rfl
theorem ble_t {a b : Nat} (h : a ≤ b) : Nat.ble a b = true := Nat.ble_eq_true_of_le h
theorem ble_l {a b : Nat} (h : Nat.ble a b = true) : a ≤ b := Nat.le_of_ble_eq_true h
noncomputable def setK (N : Nat) (t : Tmps) (dst : Option Nat) (v : V) (k : Tmps → RR) : RR := @Option.rec Nat (fun _ => RR) (k t) (fun d => iteK (Nat.ble (Nat.succ d) N) (k ((d, v) :: t)) (k t)) dst
theorem setK_eq (N : Nat) (t : Tmps) (dst : Option Nat) (v : V) (k : Tmps → RR) : setK N t dst v k = k (setD N t dst v) := by
  cases dst with
  | none => rfl
  | some d =>
    show iteK (Nat.ble (Nat.succ d) N) (k ((d, v) :: t)) (k t) = _
    unfold setD
    by_cases h : d < N
    · rw [show Nat.ble (Nat.succ d) N = true from ble_t h]; simp only [if_pos h]; rfl
    · rw [show Nat.ble (Nat.succ d) N = false from by
        cases hb : Nat.ble (Nat.succ d) N with
        | false => rfl
        | true => exact (h (ble_l hb)).elim]
      simp only [if_neg h]; rfl
end Go.Proofs.YtkbdhjfjbkmkcaaGreat.Abs.Fast
