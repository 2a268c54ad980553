/- YtdkknhpdjcdmfaaGreatJC43: texts that follow each other, as one. -/
import Derived.Test.YtdkknhpdjcdmfaaGreatJC42
/- dom.Of: rounds, until nothing is told anew. -/
set_option linter.unusedSimpArgs false
set_option linter.unusedVariables false
namespace Go.Proofs.YtdkknhpdjcdmfaaGreat.Abs
open Go Go.RowKit Go.Proofs

attribute [simp] op_copy cop41 copK
theorem op_slice {P : Program} {cf : CF} {slot : Option Nat} {T : Tmps} {h : Heap} {dst : Option Nat} {ty : TypeId} {pos : String} {after : Array Edge} {guard : Option (Nat × Bool)} (t : TypeId) (x : Operand) (lo hi mx : Option Operand) :
    absOp P cf slot T h ⟨dst, .slice t x lo hi mx, ty, pos, after, guard⟩ = pureR h (sliceV P t (ev T x) (lo.map (ev T)) (hi.map (ev T)) (mx.map (ev T))) := rfl
theorem slice_tail (xs : List Int) (h : 0 < xs.length) : sliceV Tryz.prog 41 (.one (.isl (intsOf xs))) (some (I 1)) none none = some (.one (.isl (intsOf (xs.drop 1)))) := by
  have hu : Tryz.prog.underlying 41 = some (.slice 3) := by kernel_rfl
  have hs : tsize Tryz.prog 3 = some 1 := by kernel_rfl
  have ho : elemOK Tryz.prog 3 (intsOf xs) = true := by
    cases xs with
    | nil => simp at h
    | cons x xs => simp [elemOK, hs, intsOf]
  unfold sliceV
  rw [hu]
  have hb : boundsV xs.length (some (I 1)) none none = some (1, xs.length, none) := by
    simp [boundsV, optNat, natOf, show 1 ≤ xs.length by omega]
  simp only [intsOf_length, hb, Option.bind_some, ho]
  simp [intsOf, List.map_drop, List.take_of_length_le]
attribute [simp] op_slice
theorem tidy_domU {h : Heap} {T : Tmps} {ws : List Nat} {n : Nat} {cf : List Leaf} {v9 : V} {bw : Option AO} {up dp : List Int} {kids : List (List Int)} (hkn : kids.length = n) (hcf : cf.all plL = true) (hw9 : WasOK h.length n v9 bw)
    (hK : DomK T (.one (.ptr h.length 1 0 0)) v9 (.one (.ptr (h.length + 2) 1 0 0)) (.one (.sl (h.length + 5) 1 n 0 n)) K61) (hw : wsOf h.length ws = []) :
    tidy h.length K61 ⟨T, h ++ (some (.row 5 [cf]) :: bw :: some (.row 3 [[.sl (h.length + 3) 1 n 0 n, .sl (h.length + 4) 1 n 0 n, .sl (h.length + 5) 1 n 0 n]]) :: some (.row 1 (intsOf up)) :: some (.row 1 (intsOf dp)) :: some (.row 1 (outR h.length 6 kids)) :: fam kids), ws⟩ =
      ⟨K61.map fun e => (e.1, tget T e.1), h ++ domH h.length n (some (.row 5 [cf])) bw up dp kids, []⟩ := tidy_dom' hkn hcf hw9 hK hw

def wasS (h : Heap) (f : Fn) (was up dp : List Int) (kids : List (List Int)) (d : DT) : St :=
  domS h f (.one (.sl (h.length + 1) 1 f.blocks.length 0 f.blocks.length)) (some (.row 1 (intsOf was))) up dp kids d

theorem of_rounds (h : Heap) (f : Fn) (dp : List Int) (kids : List (List Int)) (hkn : kids.length = f.blocks.length) (hn : f.blocks.length ≤ 1000) {R : Nat → Prop} {pl : Nat → Nat} {ord : List Int} {prs : List (List Int)}
    (D : DomIn f.blocks.length R pl ord prs) (hpl : ∀ l, l ∈ prs → l.length ≤ 100000) (hol : 0 < ord.length) (at_ : List Int) (hal : at_.length = f.blocks.length) (hat : ∀ v, R v → at_[v]? = some (pl v : Int))
    (was up : List Int) (hwl : was.length = f.blocks.length) (I0 : PInv f.blocks.length R pl (prOf prs) 1 up) (d : DT) (hd : d.Fix (Sl (intsOf ord)) (Sl (intsOf at_)) (Sl (listsOf prs))) :
    ∃ up' d', lpK 61 Tryz.f61 182 1 h (wasS h f was up dp kids d) =
      some (.exit 2, wasS h f up' up' dp kids d') ∧ Doms f.blocks.length R pl prs up' ∧ d'.Fix (Sl (intsOf ord)) (Sl (intsOf at_)) (Sl (listsOf prs)) := by
  have key := loop_rel (P := Tryz.prog) (C := cfg) (sc := runScope Tryz.prog cfg 182 h.length (cfg.live 61) 0) (N := 182) (n0 := h.length) (K := cfg.live 61) (c := loopAt Tryz.f61 1)
    (fun s : List Int × List Int × DT => wasS h f s.1 s.2.1 dp kids s.2.2)
    (fun s => s.1.length = f.blocks.length ∧ PInv f.blocks.length R pl (prOf prs) 1 s.2.1 ∧ s.2.2.Fix (Sl (intsOf ord)) (Sl (intsOf at_)) (Sl (listsOf prs))) (fun s => mu f.blocks.length pl s.2.1)
    (fun s r => ∃ up' d', r = (.exit 2, wasS h f up' up' dp kids d') ∧ Doms f.blocks.length R pl prs up' ∧ d'.Fix (Sl (intsOf ord)) (Sl (intsOf at_)) (Sl (listsOf prs))) ?_ (was, up, d) ⟨hwl, I0, hd⟩
  · obtain ⟨r, h1, up', d', rfl, h2⟩ := key
    exact ⟨up', d', h1, h2⟩
  clear hd d I0 up hwl was
  rintro ⟨was, up, d⟩ ⟨hwl, J, hd⟩
  simp only at hwl J hd ⊢
  have hul := J.T.len
  have hnp := D.F.pos
  have hmax := D.max
  obtain ⟨p1, p2, p3⟩ := pass_law D (Nat.le_refl (2 * f.blocks.length)) (ord.drop 1) 1 up rfl (by omega) (by omega) J
  have hul' := p1.T.len
  have hf : Fit up := by show up.length ≤ _; omega
  have eq := equal [] up (passG pl (2 * f.blocks.length) prs (ord.drop 1) up) hf
  have hw9 : WasOK h.length f.blocks.length (.one (.sl (h.length + 1) 1 f.blocks.length 0 f.blocks.length)) (some (.row 1 (intsOf up))) := .inr ⟨rfl, _, rfl⟩
  obtain ⟨v35, v34, v6', v67, v66, v65, v8, v11, v76, v75, v74, v12, v7, v116, v115, v114, v174, v173, v172⟩ := d
  obtain ⟨⟨o35, o34, o6, o67, o66, o65, o8, o11, o76, o75, o74, o12, o7, o116, o115, o114, o174, o173, o172⟩, e6, e7, e8⟩ := hd
  simp only at o35 o34 o6 o67 o66 o65 o8 o11 o76 o75 o74 o12 o7 o116 o115 o114 o174 o173 o172 e6 e7 e8 ⊢
  subst e6 e7 e8
  obtain ⟨d', e, hd'⟩ := of_pass h f (.one (.sl (h.length + 1) 1 f.blocks.length 0 f.blocks.length)) (some (.row 1 (intsOf up))) hw9 dp kids hkn hn D hpl at_ hal hat (Sl (intsOf ord)) up J
    ⟨v35, v34, Sl (intsOf ord), v67, v66, v65, Sl (listsOf prs), v11, v76, v75, v74, v12, Sl (intsOf at_), v116, v115, v114, v174, v173, v172⟩ ⟨⟨o35, o34, rfl, o67, o66, o65, rfl, o11, o76, o75, o74, o12, rfl, o116, o115, o114, o174, o173, o172⟩, rfl, rfl, rfl⟩
  obtain ⟨w35, w34, w6, w67, w66, w65, w8, w11, w76, w75, w74, w12, w7, w116, w115, w114, w174, w173, w172⟩ := d'
  obtain ⟨⟨q35, q34, q6, q67, q66, q65, q8, q11, q76, q75, q74, q12, q7, q116, q115, q114, q174, q173, q172⟩, g6, g7, g8⟩ := hd'
  simp only at q35 q34 q6 q67 q66 q65 q8 q11 q76 q75 q74 q12 q7 q116 q115 q114 q174 q173 q172 g6 g7 g8
  subst g6 g7 g8
  generalize hup : passG pl (2 * f.blocks.length) prs (ord.drop 1) up = up' at p1 p2 p3 hul' eq e
  have hn0 : f.blocks.length ≠ 0 := by omega
  simp [domS, domT, encFn, lpK, lvOf, Tryz.f61, -List.drop_one] at e
  by_cases hee : up = up'
  · subst hee
    refine .inr ⟨(.exit 2, wasS h f up up dp kids ⟨w35, w34, Sl (intsOf ord), w67, w66, w65, Sl (listsOf prs), w11, w76, w75, w74, w12, Sl (intsOf at_), w116, w115, w114, w174, w173, w172⟩), ?_, nofun, up, _, rfl, ?_, ⟨⟨q35, q34, rfl, q67, q66, q65, rfl, q11, q76, q75, q74, q12, rfl, q116, q115, q114, q174, q173, q172⟩, rfl, rfl, rfl⟩⟩
    · simp (disch := (first | omega | simp (disch := omega) [])) [round_eq, wasS, domS, domT, domH, encFn, Tryz.f61, lvOf, hul, hwl, hn0, hnp, hol, slice_tail _ hol, wrap_i64, -getElem?_pos, -tidy_eq, -List.drop_one]
      rw [tidy_domU hkn ?_ hw9 ?_ ?_]
      rotate_left
      · simp
      · simp (disch := omega) [domK_p, domK_b, domK_s, domK_b2, domK_nil, o35, o34, o6, o67, o66, o65, o8, o11, o76, o75, o74, o12, o116, o115, o114, o174, o173, o172]
      · simp
      simp (disch := (first | omega | simp (disch := omega) [])) [e, wrap_i64, -getElem?_pos, -tidy_eq, -List.drop_one]
      simp (disch := (first | omega | simp (disch := omega) [])) [domH, hul, hul', eq, wrap_i64, -getElem?_pos, -tidy_eq, -List.drop_one]
      refine (tidy_domU hkn ?_ hw9 ?_ ?_).trans ?_ <;> simp (disch := omega) [domK_p, domK_b, domK_s, domK_b2, domK_nil, domH, q35, q34, q6, q67, q66, q65, q8, q11, q76, q75, q74, q12, q116, q115, q114, q174, q173, q172]
    · exact doms_of D p1 (p3 rfl).2
  · refine .inl ⟨(up, up', ⟨w35, w34, Sl (intsOf ord), w67, w66, w65, Sl (listsOf prs), w11, w76, w75, w74, w12, Sl (intsOf at_), w116, w115, w114, w174, w173, w172⟩), ?_, ⟨hul, pinv_next D p1, ⟨⟨q35, q34, rfl, q67, q66, q65, rfl, q11, q76, q75, q74, q12, rfl, q116, q115, q114, q174, q173, q172⟩, rfl, rfl, rfl⟩⟩, ?_, fun r hr => hr⟩
    · simp (disch := (first | omega | simp (disch := omega) [])) [round_eq, wasS, domS, domT, domH, encFn, Tryz.f61, lvOf, hul, hwl, hn0, hnp, hol, slice_tail _ hol, wrap_i64, -getElem?_pos, -tidy_eq, -List.drop_one]
      rw [tidy_domU hkn ?_ hw9 ?_ ?_]
      rotate_left
      · simp
      · simp (disch := omega) [domK_p, domK_b, domK_s, domK_b2, domK_nil, o35, o34, o6, o67, o66, o65, o8, o11, o76, o75, o74, o12, o116, o115, o114, o174, o173, o172]
      · simp
      simp (disch := (first | omega | simp (disch := omega) [])) [e, wrap_i64, -getElem?_pos, -tidy_eq, -List.drop_one]
      simp (disch := (first | omega | simp (disch := omega) [])) [domH, hul, hul', eq, hee, wrap_i64, -getElem?_pos, -tidy_eq, -List.drop_one]
      refine (tidy_domU hkn ?_ hw9 ?_ ?_).trans ?_ <;> simp (disch := omega) [domK_p, domK_b, domK_s, domK_b2, domK_nil, domH, hee, q35, q34, q6, q67, q66, q65, q8, q11, q76, q75, q74, q12, q116, q115, q114, q174, q173, q172]
    · show mu _ _ up' < mu _ _ up
      have : mu f.blocks.length pl up' ≠ mu f.blocks.length pl up := fun e => hee (p3 e).1.symm
      omega
end Go.Proofs.YtdkknhpdjcdmfaaGreat.Abs

/- dom.Of: depths, and kids. -/
set_option linter.unusedSimpArgs false
set_option linter.unusedVariables false
namespace Go.Proofs.YtdkknhpdjcdmfaaGreat.Abs
open Go Go.RowKit Go.Proofs

theorem set_gar {rows : List (List Int)} {n : Nat} (hn : rows.length = n) (g : Heap) (o : Option AO) : (fam rows ++ g).set n o = fam rows ++ g.set 0 o := by
  subst hn
  rw [List.set_append_right _ _ (by simp), fam_length, Nat.sub_self]
theorem set_gar1 {rows : List (List Int)} {n : Nat} (hn : rows.length = n) (g : Heap) (o : Option AO) : (fam rows ++ g).set (n + 1) o = fam rows ++ g.set 1 o := by
  subst hn
  rw [List.set_append_right _ _ (by simp), fam_length]
  congr 2
  omega

theorem take_gar {rows : List (List Int)} {n : Nat} (hn : rows.length = n) (g : Heap) (j : Nat) : (fam rows ++ g).take (n + j) = fam rows ++ g.take j := by
  subst hn
  rw [List.take_append, fam_length, List.take_of_length_le (by simp)]
  congr 2
  omega
theorem drop_gar {rows : List (List Int)} {n : Nat} (hn : rows.length = n) (g : Heap) (j : Nat) : (fam rows ++ g).drop (n + j) = g.drop j := by
  subst hn
  rw [List.drop_append, fam_length, List.drop_eq_nil_of_le (by simp), List.nil_append]
  congr 1
  omega
theorem at_gar {rows : List (List Int)} {n : Nat} (hn : rows.length = n) (g : Heap) : (fam rows ++ g)[n]? = g[0]? := by
  subst hn
  rw [List.getElem?_append_right (by simp), fam_length, Nat.sub_self]
theorem nth_gar {rows : List (List Int)} {n : Nat} (hn : rows.length = n) (g : Heap) : nthO (fam rows ++ g) n = nthO g 0 := by
  have : ∀ (t : Heap) (j : Nat), nthO t j = t[j]? := fun t j => by
    induction t generalizing j with
    | nil => rfl
    | cons a t ih => cases j with
      | zero => rfl
      | succ j => simpa [nthO] using ih j
  rw [this, this, at_gar hn]
theorem at_gar1 {rows : List (List Int)} {n : Nat} (hn : rows.length = n) (g : Heap) : (fam rows ++ g)[n + 1]? = g[1]? := by
  subst hn
  rw [List.getElem?_append_right (by simp), fam_length]
  congr 1
  omega
theorem nth_gar1 {rows : List (List Int)} {n : Nat} (hn : rows.length = n) (g : Heap) : nthO (fam rows ++ g) (n + 1) = nthO g 1 := by
  rw [← nthO_eq, ← nthO_eq, at_gar1 hn]
/-- Depths so far. -/
def DepOK (n i : Nat) (dp : List Int) : Prop := dp.length = n ∧ dp[0]? = some 0 ∧ ∀ x, x ∈ dp → 0 ≤ x ∧ x ≤ i

theorem of_deep (h : Heap) (f : Fn) (v9 : V) (bw : Option AO) (hw9 : WasOK h.length f.blocks.length v9 bw) (hn : f.blocks.length ≤ 1000) (up tail : List Int) (hul : up.length = f.blocks.length) (hmax : tail.length ≤ 1000)
    (ht : ∀ k, k ∈ tail → ∃ q b : Nat, k = (q : Int) ∧ q ≠ 0 ∧ q < f.blocks.length ∧ up[q]? = some (b : Int) ∧ b < f.blocks.length)
    (dp : List Int) (kids : List (List Int)) (hdp : DepOK f.blocks.length 0 dp) (hkn : kids.length = f.blocks.length) (hlow : Low 0 kids) (d : DT) (hd : d.Ok) :
    ∃ dp' kids' d', lpK 61 Tryz.f61 182 4 h (domS h f v9 bw up dp kids { d with v116 := I (0 : Nat), v115 := I (tail.length : Nat), v114 := Sl (intsOf tail) }) =
      some (.exit 9, domS h f v9 bw up dp' kids' d') ∧ d'.Ok ∧ DepOK f.blocks.length tail.length dp' ∧ kids'.length = f.blocks.length ∧ Low tail.length kids' := by
  have dd := dt61
  simp [Tryz.f61, infoFn, infoRegs, List.lookup] at dd
  have key := loop_rel (P := Tryz.prog) (C := cfg) (sc := runScope Tryz.prog cfg 182 h.length (cfg.live 61) 0) (N := 182) (n0 := h.length) (K := cfg.live 61) (c := loopAt Tryz.f61 4)
    (fun s : Nat × List Int × List (List Int) => domS h f v9 bw up s.2.1 s.2.2 { d with v116 := I (s.1 : Nat), v115 := I (tail.length : Nat), v114 := Sl (intsOf tail) })
    (fun s => s.1 ≤ tail.length ∧ DepOK f.blocks.length s.1 s.2.1 ∧ s.2.2.length = f.blocks.length ∧ Low s.1 s.2.2) (fun s => tail.length - s.1)
    (fun s r => ∃ dp' kids' d', r = (.exit 9, domS h f v9 bw up dp' kids' d') ∧ d'.Ok ∧ DepOK f.blocks.length tail.length dp' ∧ kids'.length = f.blocks.length ∧ Low tail.length kids') ?_ (0, dp, kids) ⟨Nat.zero_le _, hdp, hkn, hlow⟩
  · obtain ⟨r, h1, dp', kids', d', rfl, h2⟩ := key
    exact ⟨dp', kids', d', h1, h2⟩
  clear hdp hkn hlow dp kids
  rintro ⟨i, dp, kids⟩ ⟨hi, hdp, hkn, hlow⟩
  simp only at hi hdp hkn hlow ⊢
  obtain ⟨v35, v34, v6, v67, v66, v65, v8, v11, v76, v75, v74, v12, v7, v116, v115, v114, v174, v173, v172⟩ := d
  obtain ⟨o35, o34, o6, o67, o66, o65, o8, o11, o76, o75, o74, o12, o7, o116, o115, o114, o174, o173, o172⟩ := hd
  simp only at o35 o34 o6 o67 o66 o65 o8 o11 o76 o75 o74 o12 o7 o116 o115 o114 o174 o173 o172 ⊢
  obtain ⟨hdl, hd0, hdr⟩ := hdp
  rcases Nat.lt_or_ge i tail.length with hlt | hge
  · have hltI : ((i : Nat) : Int) < ((tail.length : Nat) : Int) := by omega
    obtain ⟨k, hk⟩ : ∃ k, tail[i]? = some k := ⟨_, List.getElem?_eq_getElem hlt⟩
    obtain ⟨q, b, rfl, hq0, hqn, hub, hbn⟩ := ht k (List.mem_of_getElem? hk)
    obtain ⟨x, hx⟩ : ∃ x, dp[b]? = some x := ⟨_, List.getElem?_eq_getElem (by omega)⟩
    obtain ⟨y, hy⟩ : ∃ y, dp[q]? = some y := ⟨_, List.getElem?_eq_getElem (by omega)⟩
    obtain ⟨acc, ha⟩ : ∃ acc, kids[b]? = some acc := ⟨_, List.getElem?_eq_getElem (by omega)⟩
    have hx2 := hdr x (List.mem_of_getElem? hx)
    have hal := hlow acc (List.mem_of_getElem? ha)
    have hln2 : (kids.set b (acc ++ [(q : Int)])).length = f.blocks.length := by simp [hkn]
    have hset : (outR h.length 6 kids).set b [.sl (h.length + (b + 6)) 1 (acc.length + 1) 0 (acc.length + 1)] = outR h.length 6 (kids.set b (acc ++ [(q : Int)])) := by
      have := outR_set h.length 6 kids b (acc ++ [(q : Int)])
      simpa using this
    refine .inl ⟨(i + 1, dp.set q (x + 1), kids.set b (acc ++ [(q : Int)])), ?_, ⟨hlt, ⟨by simpa using hdl, ?_, ?_⟩, hln2, ?_⟩, by first | omega | (simp only; omega), fun r hr => hr⟩
    · simp (disch := (first | omega | simp (disch := omega) [hkn])) [round_eq, domS, domT, domH, encFn, Tryz.f61, lvOf, hlt, hltI, hk, hqn, hbn, hub, hx, hy, ha, hul, hdl, hkn, dd, unOK, apartR, disjoint, cellsApart, room_of, row_fam0 _ ha, row_fam _ _ ha, row_gar hkn, set_gar hkn, set_gar1 hkn, take_gar hkn, drop_gar hkn, nth_gar hkn, at_gar hkn, at_gar1 hkn, nth_gar1 hkn, take_gar hln2, drop_gar hln2, nth_gar hln2, at_gar hln2, at_gar1 hln2, nth_gar1 hln2, set_gar hln2, set_gar1 hln2, Nat.add_assoc, set_fam, intsOf_snoc, intsOf_set, hset, wrap_i64, -getElem?_pos, -tidy_eq]
      refine (tidy_dom hln2 ?_ hw9 ?_ ?_).trans ?_ <;> simp (disch := omega) [domK_p, domK_b, domK_s, domK_b2, domK_nil, domH, o35, o34, o6, o67, o66, o65, o8, o11, o76, o75, o74, o12, o7, o174, o173, o172]
    · rw [List.getElem?_set, if_neg hq0]; exact hd0
    · intro z hz
      rcases List.mem_or_eq_of_mem_set hz with hz | rfl
      · have := hdr z hz; omega
      · omega
    · intro l hl
      rcases List.mem_or_eq_of_mem_set hl with hl | rfl
      · have := hlow l hl; omega
      · simp; omega
  · have : i = tail.length := by omega
    subst this
    refine .inr ⟨_, ?_, ?_, dp, kids, ⟨v35, v34, v6, v67, v66, v65, v8, v11, v76, v75, v74, v12, v7, I (tail.length : Nat), I (tail.length : Nat), Sl (intsOf tail), v174, v173, v172⟩, rfl, ⟨o35, o34, o6, o67, o66, o65, o8, o11, o76, o75, o74, o12, o7, rfl, rfl, rfl, o174, o173, o172⟩, ⟨hdl, hd0, hdr⟩, hkn, hlow⟩
    · simp (disch := (first | omega | simp (disch := omega) [])) [round_eq, domS, domT, Tryz.f61, lvOf, -getElem?_pos, -tidy_eq]
      refine (tidy_dom' hkn ?_ hw9 ?_ ?_).trans ?_ <;> simp (disch := omega) [domK_p, domK_b, domK_s, domK_b2, domK_nil, encFn_pl, o35, o34, o6, o67, o66, o65, o8, o11, o76, o75, o74, o12, o7, o174, o173, o172]
    · nofun
end Go.Proofs.YtdkknhpdjcdmfaaGreat.Abs

/- dom.Of: kids, sorted. -/
set_option linter.unusedSimpArgs false
set_option linter.unusedVariables false
namespace Go.Proofs.YtdkknhpdjcdmfaaGreat.Abs
open Go Go.RowKit Go.Proofs

theorem set_same {α : Type} {l : List α} {i : Nat} {x : α} (h : l[i]? = some x) : l.set i x = l := by
  apply List.ext_getElem?
  intro j
  rw [List.getElem?_set]
  split
  · rename_i e; subst e
    rw [if_pos (List.getElem?_eq_some_iff.1 h).1, h]
  · rfl
theorem outR_same (b k : Nat) (ls : List (List Int)) (i : Nat) (l acc : List Int) (ha : ls[i]? = some acc) (hl : l.length = acc.length) : outR b k (ls.set i l) = outR b k ls := by
  rw [← outR_set]
  refine set_same ?_
  rw [outR_get, ha, hl]
  rfl
theorem upd_dom (h : Heap) (n : Nat) (bf bw : Option AO) (up dp : List Int) (kids : List (List Int)) (i : Nat) (l acc : List Int) (ha : kids[i]? = some acc) (hl : l.length = acc.length) :
    updH (h ++ domH h.length n bf bw up dp kids) (h.length + (i + 6)) 1 (intsOf l) = h ++ domH h.length n bf bw up dp (kids.set i l) := by
  unfold updH
  rw [set_at]
  congr 1
  unfold domH
  simp only [List.set_cons_succ, fam_set]
  rw [outR_same _ _ kids i l acc ha hl]

theorem of_sort (h : Heap) (f : Fn) (v9 : V) (bw : Option AO) (hw9 : WasOK h.length f.blocks.length v9 bw) (hn : f.blocks.length ≤ 1000) (up dp : List Int)
    (kids : List (List Int)) (hkn : kids.length = f.blocks.length) (hlow : Low 12 kids) (d : DT) (hd : d.Ok) :
    ∃ kids' d', lpK 61 Tryz.f61 182 5 h (domS h f v9 bw up dp kids { d with v174 := I (0 : Nat), v173 := I (f.blocks.length : Nat), v172 := .one (.sl (h.length + 5) 1 f.blocks.length 0 f.blocks.length) }) =
      some (.exit 11, domS h f v9 bw up dp kids' d') ∧ kids'.length = f.blocks.length := by
  have key := loop_rel (P := Tryz.prog) (C := cfg) (sc := runScope Tryz.prog cfg 182 h.length (cfg.live 61) 0) (N := 182) (n0 := h.length) (K := cfg.live 61) (c := loopAt Tryz.f61 5)
    (fun s : Nat × List (List Int) => domS h f v9 bw up dp s.2 { d with v174 := I (s.1 : Nat), v173 := I (f.blocks.length : Nat), v172 := .one (.sl (h.length + 5) 1 f.blocks.length 0 f.blocks.length) })
    (fun s => s.1 ≤ f.blocks.length ∧ s.2.length = f.blocks.length ∧ Low 12 s.2) (fun s => f.blocks.length - s.1)
    (fun s r => ∃ kids' d', r = (.exit 11, domS h f v9 bw up dp kids' d') ∧ kids'.length = f.blocks.length) ?_ (0, kids) ⟨Nat.zero_le _, hkn, hlow⟩
  · obtain ⟨r, h1, kids', d', rfl, h2⟩ := key
    exact ⟨kids', d', h1, h2⟩
  clear hkn hlow kids
  rintro ⟨i, kids⟩ ⟨hi, hkn, hlow⟩
  simp only at hi hkn hlow ⊢
  obtain ⟨v35, v34, v6, v67, v66, v65, v8, v11, v76, v75, v74, v12, v7, v116, v115, v114, v174, v173, v172⟩ := d
  obtain ⟨o35, o34, o6, o67, o66, o65, o8, o11, o76, o75, o74, o12, o7, o116, o115, o114, o174, o173, o172⟩ := hd
  simp only at o35 o34 o6 o67 o66 o65 o8 o11 o76 o75 o74 o12 o7 o116 o115 o114 o174 o173 o172 ⊢
  rcases Nat.lt_or_ge i f.blocks.length with hlt | hge
  · have hltI : ((i : Nat) : Int) < ((f.blocks.length : Nat) : Int) := by omega
    obtain ⟨acc, ha⟩ : ∃ acc, kids[i]? = some acc := ⟨_, List.getElem?_eq_getElem (by omega)⟩
    have hal := hlow acc (List.mem_of_getElem? ha)
    have hlen : (h ++ domH h.length f.blocks.length (some (.row 5 [encFn f])) bw up dp kids).length = h.length + (kids.length + 6) := by simp [domH]
    obtain ⟨ys, ws, e, hyl, hws⟩ := sort (h ++ domH h.length f.blocks.length (some (.row 5 [encFn f])) bw up dp kids) (h.length + (i + 6)) (by rw [hlen]; omega) acc.length (by omega) acc rfl
    have hself : updH (h ++ domH h.length f.blocks.length (some (.row 5 [encFn f])) bw up dp kids) (h.length + (i + 6)) 1 (intsOf acc) = h ++ domH h.length f.blocks.length (some (.row 5 [encFn f])) bw up dp kids := by
      rw [upd_dom _ _ _ _ _ _ _ _ acc acc ha rfl, set_same ha]
    rw [hself, upd_dom _ _ _ _ _ _ _ _ ys acc ha hyl] at e
    have hln2 : (kids.set i ys).length = f.blocks.length := by simp [hkn]
    have hwo : wsOf h.length ws = [] := wsOf_own fun x hx => by rw [hws x hx]; omega
    simp [domH, encFn] at e
    refine .inl ⟨(i + 1, kids.set i ys), ?_, ⟨hlt, hln2, ?_⟩, by first | omega | (simp only; omega), fun r hr => hr⟩
    · simp (disch := (first | omega | simp (disch := omega) [hkn])) [round_eq, domS, domT, domH, encFn, Tryz.f61, lvOf, hlt, hltI, ha, hkn, e, wrap_i64, -getElem?_pos, -tidy_eq]
      refine (tidy_dom' hln2 ?_ hw9 ?_ ?_).trans ?_ <;> simp (disch := omega) [domK_p, domK_b, domK_s, domK_b2, domK_nil, domH, hwo, o35, o34, o6, o67, o66, o65, o8, o11, o76, o75, o74, o12, o7, o116, o115, o114]
    · intro l hl
      rcases List.mem_or_eq_of_mem_set hl with hl | rfl
      · exact hlow l hl
      · omega
  · have : i = f.blocks.length := by omega
    subst this
    refine .inr ⟨_, ?_, ?_, kids, ⟨v35, v34, v6, v67, v66, v65, v8, v11, v76, v75, v74, v12, v7, v116, v115, v114, I (f.blocks.length : Nat), I (f.blocks.length : Nat), .one (.sl (h.length + 5) 1 f.blocks.length 0 f.blocks.length)⟩, rfl, hkn⟩
    · simp (disch := (first | omega | simp (disch := omega) [])) [round_eq, domS, domT, Tryz.f61, lvOf, -getElem?_pos, -tidy_eq]
      refine (tidy_dom' hkn ?_ hw9 ?_ ?_).trans ?_ <;> simp (disch := omega) [domK_p, domK_b, domK_s, domK_b2, domK_nil, encFn_pl, o35, o34, o6, o67, o66, o65, o8, o11, o76, o75, o74, o12, o7, o116, o115, o114]
    · nofun
end Go.Proofs.YtdkknhpdjcdmfaaGreat.Abs

/- The state of dom.Of, where the links as they were are made. -/
set_option linter.unusedSimpArgs false
set_option linter.unusedVariables false
namespace Go.Proofs.YtdkknhpdjcdmfaaGreat.Abs
open Go Go.RowKit Go.Proofs

theorem newRows_fam {H : Heap} {n0 b : Nat} {L : List (Option Nat)} (hb : n0 ≤ b) : ∀ (k : Nat) (ls : List (List Int)), (∀ i l, ls[i]? = some l → placeOf (b + (k + i)) L n0 = some (b + (k + i)) ∧ H[b + (k + i)]? = some (some (.row 1 (intsOf l)))) → ∀ p, newRows H n0 L [2] p (outR b k ls) = some (outR b k ls, fam ls)
  | _, [], _, p => rfl
  | k, l :: ls, h, p => by
    obtain ⟨h1, h2⟩ := h 0 l rfl
    rw [Nat.add_zero] at h1 h2
    have ih := newRows_fam hb (k + 1) ls fun i x hx => by
      have := h (i + 1) x (by simpa using hx)
      rw [show k + 1 + i = k + (i + 1) by omega]
      exact this
    have f1 : fzT H n0 L (.sl (b + k) 1 l.length 0 l.length) = some (.sl (b + k) 1 l.length 0 l.length) := by rw [fzT_sl, if_pos (by omega), h1]; rfl
    have f2 : objOf H n0 L (ownId n0 (.sl (b + k) 1 l.length 0 l.length)) = some (some (.row 1 (intsOf l))) := by
      have : ownId n0 (.sl (b + k) 1 l.length 0 l.length) = some (b + k) := by simp [ownId, refId]; omega
      rw [this]
      simp only [objOf, h2, fzO, mapO_ints]; rfl
    simp only [outR, newRows, newCells, f1, f2, ih]
    simp [fam, mapO, newCells]

theorem tidy_dom1 {h : Heap} {T : Tmps} {ws : List Nat} {n : Nat} {cf : List Leaf} {up dp was : List Int} {kids : List (List Int)} (hkn : kids.length = n) (hcf : cf.all plL = true)
    (hK : DomK T (.one (.ptr h.length 1 0 0)) (.one (.sl (h.length + (n + 6)) 1 n 0 n)) (.one (.ptr (h.length + 2) 1 0 0)) .junk K61) (hw : wsOf h.length ws = []) :
    tidy h.length K61 ⟨T, h ++ (some (.row 5 [cf]) :: none :: some (.row 3 [[.sl (h.length + 3) 1 n 0 n, .sl (h.length + 4) 1 n 0 n, .sl (h.length + 5) 1 n 0 n]]) :: some (.row 1 (intsOf up)) :: some (.row 1 (intsOf dp)) :: some (.row 1 (outR h.length 6 kids)) :: (fam kids ++ [some (.row 1 (intsOf was))])), ws⟩ =
      ⟨K61.map fun e => (e.1, if e.1 = 9 then .one (.sl (h.length + 1) 1 n 0 n) else tget T e.1), h ++ domH h.length n (some (.row 5 [cf])) (some (.row 1 (intsOf was))) up dp kids, []⟩ := by
  subst hkn
  obtain ⟨⟨_, hT1⟩, p3, p35, p34, ⟨_, hT9⟩, p6, p67, p66, p65, p8, p11, p76, p75, p74, p12, p7, p116, p115, p114, p174, p173, p172, ⟨_, hT4⟩, _⟩ := hK
  simp only at hT1 hT9 hT4 p3 p35 p34 p6 p67 p66 p65 p8 p11 p76 p75 p74 p12 p7 p116 p115 p114 p174 p173 p172
  have pj : ∀ {v : V}, plV v = true ∨ v = .junk → plV v = true := fun h => h.elim id fun e => by rw [e]; rfl
  replace p3 := pj p3
  replace p35 := pj p35
  replace p34 := pj p34
  replace p6 := pj p6
  replace p67 := pj p67
  replace p66 := pj p66
  replace p65 := pj p65
  replace p8 := pj p8
  replace p11 := pj p11
  replace p76 := pj p76
  replace p75 := pj p75
  replace p74 := pj p74
  replace p12 := pj p12
  replace p7 := pj p7
  replace p116 := pj p116
  replace p115 := pj p115
  replace p114 := pj p114
  replace p174 := pj p174
  replace p173 := pj p173
  replace p172 := pj p172
  have wrow : ∀ i l, kids[i]? = some l → (h ++ (some (AO.row 5 [cf]) :: none :: some (.row 3 [[.sl (h.length + 3) 1 kids.length 0 kids.length, .sl (h.length + 4) 1 kids.length 0 kids.length, .sl (h.length + 5) 1 kids.length 0 kids.length]]) :: some (.row 1 (intsOf up)) :: some (.row 1 (intsOf dp)) :: some (.row 1 (outR h.length 6 kids)) :: (fam kids ++ [some (.row 1 (intsOf was))])))[h.length + (6 + i)]? = some (some (.row 1 (intsOf l))) := by
    intro i l hl
    have hi := (List.getElem?_eq_some_iff.1 hl).1
    rw [List.getElem?_append_right (by omega), Nat.add_sub_cancel_left, show 6 + i = i + 6 by omega]
    show (fam kids ++ [some (.row 1 (intsOf was))])[i]? = _
    rw [List.getElem?_append_left (by simpa using hi), fam_get, hl]
    rfl
  have wat : (h ++ (some (AO.row 5 [cf]) :: none :: some (.row 3 [[.sl (h.length + 3) 1 kids.length 0 kids.length, .sl (h.length + 4) 1 kids.length 0 kids.length, .sl (h.length + 5) 1 kids.length 0 kids.length]]) :: some (.row 1 (intsOf up)) :: some (.row 1 (intsOf dp)) :: some (.row 1 (outR h.length 6 kids)) :: (fam kids ++ [some (.row 1 (intsOf was))])))[h.length + (kids.length + 6)]? = some (some (.row 1 (intsOf was))) := by
    rw [List.getElem?_append_right (by omega), Nat.add_sub_cancel_left]
    show (fam kids ++ [some (.row 1 (intsOf was))])[kids.length]? = _
    rw [List.getElem?_append_right (by simp), fam_length, Nat.sub_self]
    rfl
  generalize hH : h ++ (some (AO.row 5 [cf]) :: none :: some (.row 3 [[.sl (h.length + 3) 1 kids.length 0 kids.length, .sl (h.length + 4) 1 kids.length 0 kids.length, .sl (h.length + 5) 1 kids.length 0 kids.length]]) :: some (.row 1 (intsOf up)) :: some (.row 1 (intsOf dp)) :: some (.row 1 (outR h.length 6 kids)) :: (fam kids ++ [some (.row 1 (intsOf was))])) = H at wrow wat
  have at0 : H[h.length]? = some (some (.row 5 [cf])) := by
    rw [← hH, List.getElem?_append_right (by omega), Nat.sub_self]; rfl
  have at2 : H[h.length + 2]? = some (some (.row 3 [[.sl (h.length + 3) 1 kids.length 0 kids.length, .sl (h.length + 4) 1 kids.length 0 kids.length, .sl (h.length + 5) 1 kids.length 0 kids.length]])) := by
    rw [← hH, List.getElem?_append_right (by omega), Nat.add_sub_cancel_left]; rfl
  have at3 : H[h.length + 3]? = some (some (.row 1 (intsOf up))) := by
    rw [← hH, List.getElem?_append_right (by omega), Nat.add_sub_cancel_left]; rfl
  have at4 : H[h.length + 4]? = some (some (.row 1 (intsOf dp))) := by
    rw [← hH, List.getElem?_append_right (by omega), Nat.add_sub_cancel_left]; rfl
  have at5 : H[h.length + 5]? = some (some (.row 1 (outR h.length 6 kids))) := by
    rw [← hH, List.getElem?_append_right (by omega), Nat.add_sub_cancel_left]; rfl
  have own : ∀ j, ownId h.length (.sl (h.length + j) 1 kids.length 0 kids.length) = some (h.length + j) := fun j => by simp [ownId, refId]
  have hr4 : rootOf h.length (.one (.ptr (h.length + 2) 1 0 0)) = some (h.length + 2) := by simp [rootOf, ownId, refId]
  have hr1 : rootOf h.length (.one (.ptr h.length 1 0 0)) = some h.length := by simp [rootOf, ownId, refId]
  have hr9 : rootOf h.length (.one (.sl (h.length + (kids.length + 6)) 1 kids.length 0 kids.length)) = some (h.length + (kids.length + 6)) := by simp [rootOf, ownId, refId]
  have hfl : (outR h.length 6 kids).flatMap (cellIds h.length [2]) = idsR h.length 6 kids.length := cells_outR (Nat.le_refl _) 6 kids
  have hcan : Canon h.length 6 (fam kids ++ []) (idsR h.length 6 kids.length) := canon_fam _ _ _ _
  generalize hLd : (some h.length :: some (h.length + (kids.length + 6)) :: some (h.length + 2) :: some (h.length + 3) :: some (h.length + 4) :: some (h.length + 5) :: idsR h.length 6 kids.length) = L
  have hL : kdL H h.length T K61 = L := by
    rw [← hLd]
    simp only [kdL, kdIds, hT1, hT9, hT4, hr1, hr4, hr9, insideIds2, at2, List.flatMap_cons, List.flatMap_nil, cellIds2, own, insideIds, at5, hfl]
    simp
  have hmem : ∀ (p k : Nat) (id : Nat), some id ∈ idsR h.length p k → h.length + p ≤ id ∧ id < h.length + (p + k) := by
    intro p k
    induction k generalizing p with
    | zero => intro id hid; simp [idsR] at hid
    | succ k ih =>
      intro id hid
      rcases List.mem_cons.1 hid with e | hid
      · cases e; omega
      · have := ih (p + 1) id hid; omega
  have hok : okL h.length L = true := by
    have h1 := hcan.okL.1
    have n1 : ∀ j, (j < 6 ∨ kids.length + 6 ≤ j) → (idsR h.length 6 kids.length).contains (some (h.length + j)) = false := by
      intro j hj
      rw [← Bool.not_eq_true, List.contains_iff_mem]
      intro hm
      have := hmem _ _ _ hm
      omega
    have n0 : (idsR h.length 6 kids.length).contains (some h.length) = false := n1 0 (by omega)
    rw [← hLd]
    simp [okL, h1]
    have m1 : ∀ j, (j < 6 ∨ kids.length + 6 ≤ j) → some (h.length + j) ∉ idsR h.length 6 kids.length := fun j hj hm => by
      have := hmem _ _ _ hm
      omega
    have m0 : some h.length ∉ idsR h.length 6 kids.length := m1 0 (by omega)
    refine ⟨m0, m1 _ (.inr (by omega)), m1 2 (by omega), m1 3 (by omega), m1 4 (by omega), m1 5 (by omega)⟩
  have pl0 : placeOf h.length L h.length = some h.length := by rw [← hLd]; simp [placeOf, placeAt]
  have pl9 : placeOf (h.length + (kids.length + 6)) L h.length = some (h.length + 1) := by rw [← hLd]; simp [placeOf, placeAt]
  have pl2 : placeOf (h.length + 2) L h.length = some (h.length + 2) := by rw [← hLd]; simp [placeOf, placeAt]
  have pl3 : placeOf (h.length + 3) L h.length = some (h.length + 3) := by rw [← hLd]; simp [placeOf, placeAt]
  have pl4 : placeOf (h.length + 4) L h.length = some (h.length + 4) := by rw [← hLd]; simp [placeOf, placeAt]
  have pl5 : placeOf (h.length + 5) L h.length = some (h.length + 5) := by rw [← hLd]; simp [placeOf, placeAt]
  have plk : ∀ i l, kids[i]? = some l → placeOf (h.length + (6 + i)) L h.length = some (h.length + (6 + i)) := by
    intro i l hl
    have hi := (List.getElem?_eq_some_iff.1 hl).1
    have := hcan.place i ⟨.row 1 (intsOf l), by rw [List.append_nil, fam_get, hl]; rfl⟩ (by simpa using hi)
    rw [← hLd]
    unfold placeOf
    simp only [placeAt]
    rw [if_neg (by omega), if_neg (by omega), if_neg (by omega), if_neg (by omega), if_neg (by omega), if_neg (by omega), this]
  have fz0 : fzV H h.length L (.one (.ptr h.length 1 0 0)) = some (.one (.ptr h.length 1 0 0)) := by
    show (fzT _ _ _ _).map V.one = _
    rw [fzT_ptr, if_pos (by omega), pl0]; rfl
  have fz4 : fzV H h.length L (.one (.ptr (h.length + 2) 1 0 0)) = some (.one (.ptr (h.length + 2) 1 0 0)) := by
    show (fzT _ _ _ _).map V.one = _
    rw [fzT_ptr, if_pos (by omega), pl2]; rfl
  have fz9 : fzV H h.length L (.one (.sl (h.length + (kids.length + 6)) 1 kids.length 0 kids.length)) = some (.one (.sl (h.length + 1) 1 kids.length 0 kids.length)) := by
    show (fzT _ _ _ _).map V.one = _
    rw [fzT_sl, if_pos (by omega), pl9]; rfl
  have fs3 : fzT H h.length L (.sl (h.length + 3) 1 kids.length 0 kids.length) = some (.sl (h.length + 3) 1 kids.length 0 kids.length) := by rw [fzT_sl, if_pos (by omega), pl3]; rfl
  have fs4 : fzT H h.length L (.sl (h.length + 4) 1 kids.length 0 kids.length) = some (.sl (h.length + 4) 1 kids.length 0 kids.length) := by rw [fzT_sl, if_pos (by omega), pl4]; rfl
  have fs5 : fzT H h.length L (.sl (h.length + 5) 1 kids.length 0 kids.length) = some (.sl (h.length + 5) 1 kids.length 0 kids.length) := by rw [fzT_sl, if_pos (by omega), pl5]; rfl
  have ob0 : objOf H h.length L (some h.length) = some (some (.row 5 [cf])) := by
    have : mapO (fzT H h.length L) cf = some cf := mapO_id fun l hl => plL_fz (List.all_eq_true.1 hcf l hl)
    simp only [objOf, at0, fzO, mapO, this]
    rfl
  have ob3 : objOf H h.length L (some (h.length + 3)) = some (some (.row 1 (intsOf up))) := by
    simp only [objOf, at3, fzO, mapO_ints]; rfl
  have ob4 : objOf H h.length L (some (h.length + 4)) = some (some (.row 1 (intsOf dp))) := by
    simp only [objOf, at4, fzO, mapO_ints]; rfl
  have ob9 : objOf H h.length L (some (h.length + (kids.length + 6))) = some (some (.row 1 (intsOf was))) := by
    simp only [objOf, wat, fzO, mapO_ints]; rfl
  have hrows := newRows_fam (H := H) (n0 := h.length) (b := h.length) (L := L) (Nat.le_refl _) 6 kids fun i l hl => ⟨plk i l hl, wrow i l hl⟩
  have hnew : ∀ p, newRoot2 H h.length L p [(2, []), (2, []), (2, [2])] (some (h.length + 2)) = some (some (.row 3 [[.sl (h.length + 3) 1 kids.length 0 kids.length, .sl (h.length + 4) 1 kids.length 0 kids.length, .sl (h.length + 5) 1 kids.length 0 kids.length]]) :: some (.row 1 (intsOf up)) :: some (.row 1 (intsOf dp)) :: some (.row 1 (outR h.length 6 kids)) :: fam kids) := by
    intro p
    simp only [newRoot2, at2, newRows2, newCells2, fs3, fs4, fs5, own, newRoot, ob3, ob4, at5, hrows, mapO, List.length_cons, List.length_nil]
    simp
  have hall : kdAll H h.length L T 0 K61 = some (K61.map fun e => (e.1, if e.1 = 9 then .one (.sl (h.length + 1) 1 kids.length 0 kids.length) else tget T e.1), domH h.length kids.length (some (.row 5 [cf])) (some (.row 1 (intsOf was))) up dp kids) := by
    simp only [kdAll, kdNew, hT1, hT9, hT4, fz0, fz4, fz9, hr1, hr9, hr4, newRoot, ob0, ob9, plV_fz p3, plV_fz p35, plV_fz p34, plV_fz p6, plV_fz p67, plV_fz p66, plV_fz p65, plV_fz p8, plV_fz p11, plV_fz p76, plV_fz p75, plV_fz p74, plV_fz p12, plV_fz p7, plV_fz p116, plV_fz p115, plV_fz p114, plV_fz p174, plV_fz p173, plV_fz p172, List.length_cons, List.length_nil, Nat.zero_add, Nat.add_zero, hnew]
    simp [domH, hT1, hT4]
  unfold tidy tidyO
  simp only [hL, hok, if_true, hall, hw, fzH]
  rw [← hH, List.take_left']
  rfl
end Go.Proofs.YtdkknhpdjcdmfaaGreat.Abs

/- dom.Of: what it hands back. -/
set_option linter.unusedSimpArgs false
set_option linter.unusedVariables false
namespace Go.Proofs.YtdkknhpdjcdmfaaGreat.Abs
open Go Go.RowKit Go.Proofs

theorem tidy_dom0U {h : Heap} {T : Tmps} {ws : List Nat} {n : Nat} {cf : List Leaf} {up dp : List Int} (hcf : cf.all plL = true)
    (hK : DomK T (.one (.ptr h.length 1 0 0)) .junk (.one (.ptr (h.length + 4) 1 0 0)) .junk K61) (hw : wsOf h.length ws = []) :
    tidy h.length K61 ⟨T, h ++ [some (.row 5 [cf]), some (.row 1 (intsOf up)), some (.row 1 (intsOf dp)), some (.row 1 (List.replicate n [.nils])), some (.row 3 [[.sl (h.length + 1) 1 n 0 n, .sl (h.length + 2) 1 n 0 n, .sl (h.length + 3) 1 n 0 n]])], ws⟩ =
      ⟨K61.map fun e => (e.1, if e.1 = 4 then .one (.ptr (h.length + 2) 1 0 0) else tget T e.1), h ++ domH h.length n (some (.row 5 [cf])) none up dp (List.replicate n []), []⟩ := tidy_dom0 hcf hK hw

/-- What a tree of blocks is. -/
def treeV (up dp : List Int) (kids : List (List Int)) : V := .one (.iptr [.isl (intsOf up), .isl (intsOf dp), .isl (listsOf kids)] 0)

theorem domOf (h : Heap) (f : Fn) (hf : f.Fine) (hn : 0 < f.blocks.length) (hn2 : f.blocks.length ≤ 12) {R : Nat → Prop} {pl : Nat → Nat}
    (D : DomIn f.blocks.length R pl (orderF (f.blocks.map nextB)) (predsF (f.blocks.map nextB))) (hpl : ∀ l, l ∈ predsF (f.blocks.map nextB) → l.length ≤ 100000)
    (hat : ∀ v, R v → (placesF f.blocks.length (orderF (f.blocks.map nextB)))[v]? = some (pl v : Int)) :
    ∃ up dp kids, CX 61 [.agg (encFn f)] h = some (treeV up dp kids, h, []) ∧ Doms f.blocks.length R pl (predsF (f.blocks.map nextB)) up ∧ DepOK f.blocks.length 1000 dp ∧ kids.length = f.blocks.length := by
  have hb := hf.len
  have e1 := fun h => order h f hf hn
  have e2 := fun h => places h f hf hn
  have e3 := fun h => preds h f hf
  simp [encFn] at e1 e2 e3
  generalize hord : orderF (f.blocks.map nextB) = ord at *
  generalize hprs : predsF (f.blocks.map nextB) = prs at *
  generalize hatg : placesF f.blocks.length ord = at_ at *
  have hal : at_.length = f.blocks.length := by rw [← hatg]; simp
  have hol : 0 < ord.length := by
    have := D.all 0 D.F.zero
    omega
  have dd := dt61
  simp [Tryz.f61, infoFn, infoRegs, List.lookup] at dd
  have q := qt61
  simp [Tryz.f61, quietFn, quietRegs] at q
  have f0 := of_fill h f hb (List.replicate f.blocks.length 0) (List.replicate f.blocks.length []) (by simp)
  obtain ⟨up, d1, f1, hD, hd1⟩ := of_rounds h f (List.replicate f.blocks.length 0) (List.replicate f.blocks.length []) (by simp) hb D hpl hol at_ hal hat (List.replicate f.blocks.length 0) ((List.replicate f.blocks.length (-1 : Int)).set 0 0) (by simp) (pinv_first D)
    { jT with v35 := I (f.blocks.length : Nat), v34 := I (f.blocks.length : Nat), v6 := Sl (intsOf ord), v7 := Sl (intsOf at_), v8 := Sl (listsOf prs) } ⟨⟨rfl, rfl, rfl, rfl, rfl, rfl, rfl, rfl, rfl, rfl, rfl, rfl, rfl, rfl, rfl, rfl, rfl, rfl, rfl⟩, rfl, rfl, rfl⟩
  obtain ⟨w35, w34, w6, w67, w66, w65, w8, w11, w76, w75, w74, w12, w7, w116, w115, w114, w174, w173, w172⟩ := d1
  obtain ⟨⟨q35, q34, q6, q67, q66, q65, q8, q11, q76, q75, q74, q12, q7, q116, q115, q114, q174, q173, q172⟩, g6, g7, g8⟩ := hd1
  simp only at q35 q34 q6 q67 q66 q65 q8 q11 q76 q75 q74 q12 q7 q116 q115 q114 q174 q173 q172 g6 g7 g8
  subst g6 g7 g8
  have hul := hD.T.len
  have hmx := D.max
  have ht : ∀ k, k ∈ ord.drop 1 → ∃ q b : Nat, k = (q : Int) ∧ q ≠ 0 ∧ q < f.blocks.length ∧ up[q]? = some (b : Int) ∧ b < f.blocks.length := by
    intro k hk
    obtain ⟨i, hi⟩ := List.getElem?_of_mem hk
    rw [List.getElem?_drop] at hi
    obtain ⟨k0, kR, kp⟩ := D.at_ _ _ hi
    have hkz : k.toNat ≠ 0 := fun e => by rw [e, D.F.pl0] at kp; omega
    have hkn := D.F.low _ kR
    have hkd := (hD.done _ hkn).2 kR
    obtain ⟨g1, g2, g3⟩ := hD.T.link _ hkn hkd hkz
    refine ⟨k.toNat, nx up k.toNat, by omega, hkz, hkn, ?_, g1⟩
    have h1 : up[k.toNat]? = some (lk up k.toNat) := by unfold lk; rw [List.getD, List.getElem?_eq_getElem (by omega)]; rfl
    rw [h1]
    unfold nx
    rw [Int.toNat_of_nonneg hkd]
  have hw9 : ∀ was, WasOK h.length f.blocks.length (.one (.sl (h.length + 1) 1 f.blocks.length 0 f.blocks.length)) (some (.row 1 (intsOf was))) := fun was => .inr ⟨rfl, _, rfl⟩
  obtain ⟨dp, kids, d2, f2, hd2, hdp, hkn, hlow⟩ := of_deep h f _ _ (hw9 up) hb up (ord.drop 1) hul (by simp; omega) ht (List.replicate f.blocks.length 0) (List.replicate f.blocks.length [])
    ⟨by simp, by rw [List.getElem?_replicate, if_pos hn], fun x hx => by have := (List.mem_replicate.1 hx).2; omega⟩ (by simp) (fun l hl => by rw [(List.mem_replicate.1 hl).2]; exact Nat.le_refl _) ⟨w35, w34, Sl (intsOf ord), w67, w66, w65, Sl (listsOf prs), w11, w76, w75, w74, w12, Sl (intsOf at_), w116, w115, w114, w174, w173, w172⟩ ⟨q35, q34, rfl, q67, q66, q65, rfl, q11, q76, q75, q74, q12, rfl, q116, q115, q114, q174, q173, q172⟩
  obtain ⟨y35, y34, y6, y67, y66, y65, y8, y11, y76, y75, y74, y12, y7, y116, y115, y114, y174, y173, y172⟩ := d2
  obtain ⟨z35, z34, z6, z67, z66, z65, z8, z11, z76, z75, z74, z12, z7, z116, z115, z114, z174, z173, z172⟩ := hd2
  simp only at z35 z34 z6 z67 z66 z65 z8 z11 z76 z75 z74 z12 z7 z116 z115 z114 z174 z173 z172
  obtain ⟨kids', d3, f3, hkn'⟩ := of_sort h f _ _ (hw9 up) hb up dp kids hkn (hlow.mono (by simp; omega)) ⟨y35, y34, y6, y67, y66, y65, y8, y11, y76, y75, y74, y12, y7, y116, y115, y114, y174, y173, y172⟩ ⟨z35, z34, z6, z67, z66, z65, z8, z11, z76, z75, z74, z12, z7, z116, z115, z114, z174, z173, z172⟩
  have hdp' : DepOK f.blocks.length 1000 dp := ⟨hdp.1, hdp.2.1, fun x hx => by
    have h1 := hdp.2.2 x hx
    have h2 : (ord.drop 1).length ≤ 1000 := by simp; omega
    omega⟩
  refine ⟨up, dp, kids', ?_, hD, hdp', hkn'⟩
  refine CI_of Tryz.func61 rfl 0 ?_
  have hk : cfg.keep 61 = 0 := rfl
  have hz : List.replicate f.blocks.length [Leaf.int .i64 0] = intsOf (List.replicate f.blocks.length 0) := by simp [intsOf]
  have hng : negs f.blocks.length 0 = List.replicate f.blocks.length 0 := by simp [negs]
  rw [hng] at f0
  simp [domS, domT, jT, encFn, lpK, lvOf, Tryz.f61, wasS, -List.drop_one] at f0 f1 f2 f3
  simp (disch := (first | omega | simp (disch := omega) [])) [Tryz.f61, lvOf, hk, encFn, dd, unOK, apartR, disjoint, cellsApart, room_of, hz, Nat.add_assoc, -getElem?_pos, -tidy_eq, -List.drop_one, -wrapUp_zero]
  rw [tidy_dom0U rfl ?_ ?_]
  rotate_left
  · simp [domK_p, domK_b, domK_s, domK_b2, domK_nil]
  · simp
  have hr0 : (List.replicate f.blocks.length (-1 : Int))[0]? = some (-1) := by rw [List.getElem?_replicate, if_pos hn]
  simp (disch := (first | omega | simp (disch := omega) [])) [f0, wrap_i64, -getElem?_pos, -tidy_eq, -List.drop_one, -wrapUp_zero]
  simp (disch := (first | omega | simp (disch := omega) [])) [domH, q, e1, e2, e3, hn, hr0, hz, intsOf_set, wrap_i64, Nat.add_assoc, -getElem?_pos, -tidy_eq, -List.drop_one, -wrapUp_zero]
  rw [tidy_dom1 (by simp) rfl ?_ ?_]
  rotate_left
  · simp [domK_p, domK_b, domK_s, domK_b2, domK_nil]
  · simp
  simp (disch := (first | omega | simp (disch := omega) [])) [f1, slice_tail _ hol, wrap_i64, -getElem?_pos, -tidy_eq, -List.drop_one, -wrapUp_zero]
  rw [tidy_dom' (by simp) rfl (hw9 up) ?_ ?_]
  rotate_left
  · simp [domK_p, domK_b, domK_s, domK_b2, domK_nil, q35, q34, q6, q67, q66, q65, q8, q11, q76, q75, q74, q12, q7, q116, q115, q114, q174, q173, q172]
  · simp
  simp (disch := (first | omega | simp (disch := omega) [])) [f2, -getElem?_pos, -tidy_eq, -List.drop_one, -wrapUp_zero]
  simp (disch := (first | omega | simp (disch := omega) [])) [domH, hkn, -getElem?_pos, -tidy_eq, -List.drop_one, -wrapUp_zero]
  rw [tidy_domU hkn rfl (hw9 up) ?_ ?_]
  rotate_left
  · simp [domK_p, domK_b, domK_s, domK_b2, domK_nil, z35, z34, z6, z67, z66, z65, z8, z11, z76, z75, z74, z12, z7, z116, z115, z114, z174, z173, z172]
  · simp
  simp (disch := (first | omega | simp (disch := omega) [])) [f3, -getElem?_pos, -tidy_eq, -List.drop_one, -wrapUp_zero]
  have frz : ∀ (x0 x1 x2 x3 x4 : Option AO) (k : Nat), fzRowsL (h ++ (x0 :: x1 :: x2 :: x3 :: x4 :: some (.row 1 (outR h.length 6 kids')) :: fam kids')) h.length [] (k + 1) (outR h.length 6 kids') (treeR (outR h.length 6 kids')) = some (listsOf kids') := by
    intro x0 x1 x2 x3 x4 k
    rw [← rowsL_eq]
    refine fz_outR (Nat.le_refl _) 6 kids' fun i l hl => ?_
    have := row_fam0 kids' hl l.length
    rw [row_at, show 6 + i = i + 6 by omega]
    simp only [row_succ, this, if_true]
  simp [hk, domH, treeV, hul, hdp.1, hkn', fzL_ptr, elemK, frz]
end Go.Proofs.YtdkknhpdjcdmfaaGreat.Abs
