import Derived.Test.YtipcdjgcomclkaaGreatDoorF2
import Derived.OpenShut
/-! Joined, names shortened: V34, V25, V26, V27, V28, V29, V30, V35, VL. -/
set_option linter.unusedVariables false
set_option linter.unusedSimpArgs false
namespace Go.Proofs.YtipcdjgcomclkaaGreatDoorV
open Go Go.RowKit
section
variable {C : Cfg} {s s' t : St} {v : AV} {o x y : Oper} {p : L → Bool} {ops : Array Oper}
theorem Av9 : ∀ (ps : List (Nat × Operand)), (∀ x ∈ ps, t.get x.2 = s.get x.2) → B9 t ps = B9 s ps
 | [], _ => rfl
 | (i, x) :: r, h => by
  simp only [B9]
  rw [h (i, x) (by simp), Av9 r fun y hy => h y (by simp [hy])]
theorem Wi : ∀ (xs : List Operand), (∀ x ∈ xs, t.get x = s.get x) → Dy t xs = Dy s xs
 | [], _ => rfl
 | x :: r, h => by
  simp only [Dy]
  rw [h x (by simp), Wi r fun y hy => h y (by simp [hy])]
theorem Av1 {k : Int} {x : Option Operand} (h : ∀ y, x = some y → t.get y = s.get y) : Bv t k x = Bv s k x := by
 cases x with
 | none => rfl
 | some y => simp only [Bv]; rw [h y rfl]
theorem Bgu {P : Program} (op : Op) (hnl : ∀ T a, op ≠ .load T a) (h : ∀ x ∈ op.operands, t.get x = s.get x) (ho : isR op = true ∨ ∀ l, Ag t l = Ag s l) : opV P t op = opV P s op := by
 have hown : isR op = false → ∀ l, Ag t l = Ag s l := fun e => by
  rcases ho with ho | ho
  ·rw [e] at ho; cases ho
  ·exact ho
 cases op with
 | load T a => exact absurd rfl (hnl T a)
 | move x => simp only [opV]; rw [h x (by simp [Op.operands])]
 | assign x => simp only [opV]; rw [h x (by simp [Op.operands])]
 | pick c x y => simp only [opV]; rw [h c (by simp [Op.operands]), h x (by simp [Op.operands]), h y (by simp [Op.operands])]
 | build t ps =>
  simp only [opV]
  rw [Av9 ps.toList fun x hx => h x.2 (by simp only [Op.operands]; exact List.mem_toArray.2 (List.mem_map.2 ⟨x, hx, rfl⟩))]
 | nilCheck x => simp only [opV]; rw [h x (by simp [Op.operands])]
 | binOp op t x y t' => simp only [opV]; rw [h x (by simp [Op.operands]), h y (by simp [Op.operands])]
 | unOp op t x => simp only [opV]; rw [h x (by simp [Op.operands])]
 | convert t1 t2 x =>
  have hb : ∀ l, Jg t l = Jg s l := fun l => by unfold Jg; rw [hown rfl]
  simp only [opV, hb]; rw [h x (by simp [Op.operands])]
 | makeInterface t x => simp only [opV]; rw [h x (by simp [Op.operands])]
 | makeFunc f x y =>
  cases f with
  | func f =>
   simp only [opV]
   rw [Wi x.toList fun z hz => h z (by simp [Op.operands]; exact .inl (Array.mem_def.2 hz)), Wi y.toList fun z hz => h z (by simp [Op.operands]; exact .inr (Array.mem_def.2 hz))]
  | _ => rfl
 | fieldAddr S x f => simp only [opV]; rw [h x (by simp [Op.operands])]
 | field S x f => simp only [opV]; rw [h x (by simp [Op.operands])]
 | indexAddr T x y => simp only [opV, hown rfl]; rw [h x (by simp [Op.operands]), h y (by simp [Op.operands])]
 | index T x y => simp only [opV]; rw [h x (by simp [Op.operands]), h y (by simp [Op.operands])]
 | extract x i => simp only [opV]; rw [h x (by simp [Op.operands])]
 | slice T x lo hi mx =>
  cases mx with
  | some m => rfl
  | none =>
   have h1 : ∀ k, Bv t k lo = Bv s k lo := fun k => Av1 fun y hy => h y (by subst hy; simp [Op.operands])
   have h2 : ∀ k, Bv t k hi = Bv s k hi := fun k => Av1 fun y hy => h y (by subst hy; simp [Op.operands])
   simp only [opV, h1, h2]
   rw [h x (by simp [Op.operands])]
 | call c =>
  obtain ⟨f, as, ts⟩ := c
  cases f with
  | builtin b =>
   have hg : as.toList.map t.get = as.toList.map s.get := List.map_congr_left fun x hx => h x (by simp [Op.operands, Call.operands]; exact Array.mem_def.2 hx)
   cases b <;> first | rfl | skip
   ·simp only [opV, hown rfl]
    have : (as[0]?.bind fun x => Ax (t.get x)) = (as[0]?.bind fun x => Ax (s.get x)) := by
     cases he : as[0]? with
     | none => rfl
     | some x =>
      simp only [Option.bind_some]
      rw [h x (by simp [Op.operands, Call.operands]; exact Array.mem_of_getElem? he)]
    rw [this]
   ·simp only [opV, hg]
   ·simp only [opV, hg]
  | _ => rfl
 | _ => rfl
theorem Bfp {dst : Option Nat} (op : Op) (h : ∀ x ∈ op.operands, t.get x = s.get x) : ldOk C t dst op = ldOk C s dst op := by
 cases op with
 | load T a => unfold ldOk; cases dst <;> simp only []; rw [h a (by simp [Op.operands])]
 | nilCheck a => unfold ldOk; cases dst <;> simp only []; rw [h a (by simp [Op.operands])]
 | fieldAddr S a f => unfold ldOk; cases dst <;> simp only []; rw [h a (by simp [Op.operands])]
 | _ => rfl
theorem Avw {op : Op} (h : Bx op = false) : opVD C s op = opV C.P s op := by
 unfold opVD
 split
 ·cases h
 ·rfl
theorem A1l {bs : List Nat} (hc : Bx y.op = false) (h : ∀ z ∈ y.op.operands, t.get z = s.get z) (ho : isR y.op = true ∨ (∃ T a, y.op = .load T a) ∨ ∀ l, Ag t l = Ag s l) (hr : Fu C y bs = true)
  (hb : ∀ b, b ∉ bs → Ah t b = Ah s b) : Vv C y t = Vv C y s := by
 unfold Vv
 rw [Bfp _ h, Avw hc, Avw hc]
 by_cases hl : ∃ T a, y.op = .load T a
 ·obtain ⟨T, a, hop⟩ := hl
  cases hk : ldOk C s y.dst y.op with
  | false => rfl
  | true =>
   simp only [if_true]
   rw [hop] at hk h ⊢
   have hga := h a (by simp [Op.operands])
   unfold Fu at hr
   rw [hop] at hr
   cases hd : y.dst with
   | none => rw [hd] at hr; cases hr
   | some d =>
    rw [hd] at hr hk
    simp only [ldOk] at hr hk
    cases hlk : B8 C.ld d with
    | none => rw [hlk] at hr; cases hr
    | some r =>
     rw [hlk] at hr hk
     simp only [opV, hga]
     cases hlf : Ax (s.get a) with
     | none => rfl
     | some l =>
      rw [hlf] at hk
      simp only [] at hk
      have : ∀ n, Cu t n l = Cu s n l := by
       intro n
       cases l with
       | ptr b k =>
        simp only [ldL, beq_iff_eq] at hk
        subst hk
        simp only [Cu]
        rw [hb b (by simpa using hr)]
       | rpt ps => rfl
       | _ => cases hk
      cases Bp C.P T with
      | none => rfl
      | some n => simp only [this]
 ·have ho' : isR y.op = true ∨ ∀ l, Ag t l = Ag s l := by
   rcases ho with ho | ho | ho
   ·exact .inl ho
   ·exact absurd ho hl
   ·exact .inr ho
  rw [Bgu y.op (fun T a e => hl ⟨T, a, e⟩) h ho']
theorem Nn {bs : List Nat} (hc : Bx y.op = false) (h : ∀ z : Operand, (∀ e, z = .tmp e → e ∈ y.looksAt ops) → t.get z = s.get z) (ho : isR y.op = true ∨ (∃ T a, y.op = .load T a) ∨ ∀ l, Ag t l = Ag s l) (hr : Fu C y bs = true)
  (hb : ∀ b, b ∉ bs → Ah t b = Ah s b) : Vg C ops y t = Vg C ops y s := by
 have h1 : Vv C y t = Vv C y s := A1l hc (fun z hz => h z fun e he => by
  subst he
  exact List.mem_append_left _ (List.mem_filterMap.2 ⟨.tmp e, by simpa using hz, rfl⟩)) ho hr hb
 unfold Vg
 split
 ·exact h1
 ·rename_i j want hg
  split
  ·rename_i g hj
   rw [h (.tmp g) (fun e he => by cases he; exact List.mem_append_right _ (by simp [hg, hj]))]
   split
   ·rw [h1]
   ·rfl
  ·rfl
theorem Auk {o : Oper} (h : isW o = true) : isV o.op = true ∧ (Bx o.op = true → o.dst ≠ none) := by
 simp only [isW, Bool.and_eq_true, Bool.or_eq_true, Bool.not_eq_true', Option.isSome_iff_ne_none] at h
 refine ⟨h.1, fun hc => ?_⟩
 rcases h.2 with h2 | h2
 ·rw [hc] at h2; cases h2
 ·exact h2
theorem sw_gen1 {φ : AV → AV} (ky : kk C y = .no) (hv : isV y.op = true) (hc : Bx y.op = false) (H1 : ∀ v, Vg C ops y s = some v → (Az (opD C) ops (s.put y.dst v) x).val = ((Az (opD C) ops s x).val).map fun z => z.put y.dst (φ v))
  (H2 : ∀ s1, (Az (opD C) ops s x).val = some s1 → Vg C ops y s1 = (Vg C ops y s).map φ) {s1 s2 : St}
  (h1 : (Az (opD C) ops s y).val = some s1) (h2 : (Az (opD C) ops s1 x).val = some s2) : ∃ s3, (Az (opD C) ops s x).val = some s3 ∧ (Az (opD C) ops s3 y).val = some s2 := by
 have hcy : Bx y.op = true → y.dst ≠ none := fun e => by rw [hc] at e; cases e
 rw [Ih ky hv hcy] at h1
 obtain ⟨v, hv1, rfl⟩ := Option.map_eq_some_iff.1 h1
 rw [H1 v hv1] at h2
 obtain ⟨s3, h3, rfl⟩ := Option.map_eq_some_iff.1 h2
 refine ⟨s3, h3, ?_⟩
 rw [Ih ky hv hcy, H2 s3 h3, hv1]
 rfl
theorem sw_gen2 {φ : AV → AV} (ky : kk C y = .no) (hv : isV y.op = true) (hc : Bx y.op = false) (H1 : ∀ v, Vg C ops y s = some v → (Az (opD C) ops (s.put y.dst v) x).val = ((Az (opD C) ops s x).val).map fun z => z.put y.dst (φ v))
  (H2 : ∀ s1, (Az (opD C) ops s x).val = some s1 → Vg C ops y s1 = (Vg C ops y s).map φ) {s1 s2 : St}
  (h1 : (Az (opD C) ops s x).val = some s1) (h2 : (Az (opD C) ops s1 y).val = some s2) : ∃ s3, (Az (opD C) ops s y).val = some s3 ∧ (Az (opD C) ops s3 x).val = some s2 := by
 have hcy : Bx y.op = true → y.dst ≠ none := fun e => by rw [hc] at e; cases e
 rw [Ih ky hv hcy, H2 s1 h1] at h2
 obtain ⟨u, hu, rfl⟩ := Option.map_eq_some_iff.1 h2
 obtain ⟨v, hv1, rfl⟩ := Option.map_eq_some_iff.1 hu
 refine ⟨s.put y.dst v, by rw [Ih ky hv hcy, hv1]; rfl, ?_⟩
 rw [H1 v hv1, h1]
 rfl
def FrO (C : Cfg) (o : Oper) (s : St) : Prop := (∀ n ∈ mkB C o, s.all (L.noB n) = true) ∧ ∀ n ∈ mkO C o, s.all (L.noO n) = true
theorem Aap {e n : Nat} (h : s.all (L.noB n) = true) (hv : v.all (L.noB n) = true) : Ck (s.put (some e) v) n = Ck s n := by
 unfold Ck
 rw [h, Ex h hv]
 rfl
theorem Atp {e n : Nat} (h : s.all (L.noO n) = true) (hv : v.all (L.noO n) = true) : D0 (s.put (some e) v) n = D0 s n := by
 unfold D0
 rw [h, Ex h hv]
 rfl
theorem S2 {e : Nat} : ∀ (oB : List (Option Nat)) (rB : List Nat), (∀ n ∈ D4 oB rB, s.all (L.noB n) = true ∧ v.all (L.noB n) = true) → chkB (s.put (some e) v) oB rB = chkB s oB rB
 | [], [], _ => rfl
 | [], _ :: _, _ => rfl
 | some b :: r, [], _ => rfl
 | none :: r, [], _ => rfl
 | some b :: r, x :: q, h => by simp only [chkB]; rw [S2 r q fun n hn => h n hn]
 | none :: r, x :: q, h => by
  simp only [chkB]
  rw [S2 r q fun n hn => h n (by simp [D4, hn]), Aap (h x (by simp [D4])).1 (h x (by simp [D4])).2]
theorem S4 {e : Nat} : ∀ (oB : List (Option Nat)) (rB : List Nat), (∀ n ∈ D4 oB rB, s.all (L.noO n) = true ∧ v.all (L.noO n) = true) → chkO (s.put (some e) v) oB rB = chkO s oB rB
 | [], [], _ => rfl
 | [], _ :: _, _ => rfl
 | some b :: r, [], _ => rfl
 | none :: r, [], _ => rfl
 | some b :: r, x :: q, h => by simp only [chkO]; rw [S4 r q fun n hn => h n hn]
 | none :: r, x :: q, h => by
  simp only [chkO]
  rw [S4 r q fun n hn => h n (by simp [D4, hn]), Atp (h x (by simp [D4])).1 (h x (by simp [D4])).2]
theorem S6 {o : St} {e : Nat} : ∀ (oO : List (Option Nat)) (i : Nat), chkT (s.put (some e) v) o i oO = chkT s o i oO
 | [], _ => rfl
 | some l :: r, i => by simp only [chkT]; rw [S6 r]; rfl
 | none :: r, i => by simp only [chkT]; rw [S6 r]
theorem Aw9 {o : St} {f : L → L} {e : Nat} : ∀ (rB : List Nat) (i : Nat) (s : St), Cy (s.put (some e) v) o f i rB = (Cy s o f i rB).put (some e) v
 | [], i, s => rfl
 | b :: r, i, s => by
  simp only [Cy]
  exact Aw9 r (i + 1) { s with boxes := s.boxes.set b ((Ah o i).map (List.map f)) }
theorem Axc {o : St} {e : Nat} : ∀ (rO : List Nat) (i : Nat) (s : St), Db (s.put (some e) v) o i rO = (Db s o i rO).put (some e) v
 | [], i, s => rfl
 | b :: r, i, s => by
  simp only [Db]
  exact Axc r (i + 1) (Be s b (Ag o i))
theorem A1r {o : St} {d e : Nat} {oB oO : List (Option Nat)} {rB rO : List Nat} (hne : e ≠ d) (hB : ∀ n ∈ D4 oB rB, s.all (L.noB n) = true ∧ v.all (L.noB n) = true) (hO : ∀ n ∈ D4 oO rO, s.all (L.noO n) = true ∧ v.all (L.noO n) = true) :
  Dv (s.put (some e) v) o d oB oO rB rO = (Dv s o d oB oO rB rO).map fun z => z.put (some e) v := by
 unfold Dv
 rw [S2 oB rB hB, S4 oO rO hO, S6]
 split
 ·cases Ic (o.slots.map (AV.map (renL o rB rO))) with
  | none => rfl
  | some w =>
   simp only [Option.map_some]
   rw [Aw9, Axc, K6 (x := some e) (y := some d) fun k h1 h2 => hne (by cases h1; cases h2; rfl)]
 ·rfl
theorem N1 {d e : Nat} {args : List AV} {W : (List Nat × List Nat) × (List Nat × List Nat)} (hne : e ≠ d) (hB : ∀ n ∈ W.2.1, s.all (L.noB n) = true ∧ v.all (L.noB n) = true) (hO : ∀ n ∈ W.2.2, s.all (L.noO n) = true ∧ v.all (L.noO n) = true) :
  ∀ (sgs : List Sig), (Dw (s.put (some e) v) d args W sgs).val = ((Dw s d args W sgs).val).map fun z => z.put (some e) v
 | [] => rfl
 | g :: r => by
  have hs : ({ s.put (some e) v with slots := args } : St) = { s with slots := args } := rfl
  have hlen : (s.put (some e) v).slots.length = s.slots.length := by simp [St.put]
  simp only [Dw, hs]
  split
  ·exact N1 hne hB hO r
  ·cases co g.kin { s with slots := args } (max g.kin.boxes.length g.kin.owns.length) with
   | none => exact N1 hne hB hO r
   | some c =>
    simp only []
    cases dec g.kin c.s with
    | none => exact N1 hne hB hO r
    | some ps =>
     simp only [Oc.val]
     cases g.f.run (List PL) ps some with
     | none => rfl
     | some q =>
      simp only [Option.bind_some, Oc.val_ofOption]
      unfold Nv
      rw [hlen]
      split
      ·rename_i hc
       simp only [Bool.and_eq_true] at hc
       unfold back
       simp only [hc.1, if_true]
       split
       ·rfl
       ·have k1 := hc.2.1
        have k2 := hc.2.2
        unfold okK at k1 k2
        rw [Bool.and_eq_true] at k1 k2
        rw [hlen]
        exact A1r hne (fun n hn => hB n (Lb k1.2 hn)) (fun n hn => hO n (Lb k2.2 hn))
      ·rfl
theorem Aw7 {o : St} {f : L → L} {b : Nat} : ∀ (rB : List Nat) (i : Nat) (s : St), b ∉ rB → Ah (Cy s o f i rB) b = Ah s b
 | [], i, s, h => rfl
 | c :: r, i, s, h => by
  simp only [Cy]
  rw [Aw7 r _ _ (by simp at h; exact h.2)]
  simp only [Ah]
  rw [List.getElem?_set_ne (by simp at h; exact fun e => h.1 e.symm)]
theorem Aa0 {d : Nat} {w : AV} (h : t.slots = s.slots.set d w) {z : Operand} (hz : z ≠ .tmp d) : t.get z = s.get z := by
 cases z with
 | tmp e =>
  have hne : d ≠ e := fun h => hz (by rw [h])
  simp only [St.get, h, List.getD, List.getElem?_set_ne hne]
 | _ => rfl
theorem A15 {d : Nat} {args : List AV} {W : (List Nat × List Nat) × (List Nat × List Nat)} {sgs : List Sig} (h : (Dw s d args W sgs).val = some s') :
  (∃ w, s'.slots = s.slots.set d w) ∧ ∀ b, b ∉ W.1.1 ++ W.2.1 → Ah s' b = Ah s b := by
 obtain ⟨o, oB, oO, h1, h2, h3⟩ := Lk sgs h
 obtain ⟨_, w, h4, rfl⟩ := Adu h3
 unfold okK at h1
 rw [Bool.and_eq_true] at h1
 refine ⟨⟨w, ?_⟩, fun b hb => ?_⟩
 ·show ((Db (Cy s o _ 0 _) o 0 _).slots).set d w = _
  rw [Nd.2, Rz.2]
 ·show Ah (Db (Cy s o _ 0 _) o 0 _) b = _
  have e : ∀ u : St, Ah (Db u o 0 (Dn (N0 + d) s.slots.length oO 0)) b = Ah u b := fun u => by
   simp only [Ah]; rw [Nd.1]
  rw [e, Aw7 _ _ _ fun hm => hb (Lb h1.1 hm)]
theorem Aur (h : kk C x = .call) : ∃ f as ts d W, x.op = .call { callee := .value f, args := as, argTypes := ts } ∧ x.dst = some d ∧ B8 C.ef d = some W := by
 unfold kk kkd at h
 split at h
 ·rename_i f as ts d ho hd
  split at h
  ·rename_i hs
   obtain ⟨W, hW⟩ := Option.isSome_iff_exists.1 hs
   exact ⟨f, as, ts, d, W, ho, hd, hW⟩
  ·cases h
 ·split at h <;> cases h
 all_goals first | (cases h; done) | (split at h <;> cases h)
theorem Aut (h : kk C x = .store) : ∃ T n z b, x.op = .store T (.tmp n) z ∧ x.dst = none ∧ B8 C.sr n = some b := by
 unfold kk kkd at h
 split at h
 ·split at h <;> cases h
 ·rename_i T n z ho hd
  split at h
  ·rename_i hs
   obtain ⟨b, hb⟩ := Option.isSome_iff_exists.1 hs
   exact ⟨T, n, z, b, ho, hd, hb⟩
  ·cases h
 all_goals first | (cases h; done) | (split at h <;> cases h)
theorem Q9 (h : kk C x = .alloc) : ∃ T d, x.op = .alloc T ∧ x.dst = some d := by
 unfold kk kkd at h
 split at h
 ·split at h <;> cases h
 ·split at h <;> cases h
 ·rename_i T d ho hd; exact ⟨T, d, ho, hd⟩
 all_goals first | (cases h; done) | (split at h <;> cases h)
theorem Aus (h : kk C x = .row) : M2 x.op = true ∧ ∃ d, x.dst = some d := by
 unfold kk kkd at h
 split at h
 ·split at h <;> cases h
 ·split at h <;> cases h
 ·cases h
 ·rename_i ho hd
  split at h
  ·cases h
  ·rw [ho]; exact ⟨rfl, _, hd⟩
 ·rename_i ho hd; rw [ho]; exact ⟨rfl, _, hd⟩
 ·cases h
theorem Auq (h : kk C x = .boxr) : ∃ t len ps d, x.op = .buildSlice t len ps ∧ x.dst = some d := by
 unfold kk kkd at h
 split at h
 ·split at h <;> cases h
 ·split at h <;> cases h
 ·cases h
 ·rename_i t len ps d ho hd
  exact ⟨t, len, ps, d, ho, hd⟩
 ·cases h
 ·cases h
theorem Rj {t len d : Nat} {ps : Array (Nat × Operand)} (h : kk C x = .boxr) (ho : x.op = .buildSlice t len ps) (hd : x.dst = some d) : opD C s x.dst x.op = Hk C s t len ps.toList d := by
 have h' : kkd C x.dst x.op = .boxr := h
 unfold opD; rw [h', ho, hd]
theorem Adw {t len d : Nat} {ps : List (Nat × Operand)} (h : (Hk C s t len ps d).val = some s') : ∃ e q i u ls, B9 s ps = some q ∧ Di C.P e = some [Br u] ∧ E6 (fun i => some (i * 1, 1)) (List.replicate len (Br u)) q = some ls ∧
  Ck s (N0 + d) = true ∧ s' = (Bc s (N0 + d) ls).put (some d) (lf (.sb (N0 + d) i)) := by
 unfold Hk at h
 split at h
 ·rename_i e he
  split at h
  ·rename_i q z hq hz
   split at h
   ·rename_i ls hls
    split at h
    ·rename_i hc
     simp only [Bool.and_eq_true] at hc
     simp only [Oc.val] at h
     cases h
     obtain ⟨i, u, _, _, ez, _⟩ := Hc hz
     have : z ∈ u.cells.toList.map Br := by rw [← ez]; simp
     obtain ⟨c, _, rfl⟩ := List.mem_map.1 this
     exact ⟨e, q, len, c, ls, hq, hz, hls, hc.1, rfl⟩
    ·cases h
   ·cases h
  ·cases h
 ·cases h
theorem De (hg : x.guard = none) : Az (opD C) ops s x = opD C s x.dst x.op := by
 unfold Az
 rw [hg]
theorem Rk (h : kk C x = .call) : opD C s x.dst x.op = opK2 C s x.dst x.op := by
 have h' : kkd C x.dst x.op = .call := h
 unfold opD; rw [h']
theorem Rl (h : kk C x = .store) : opD C s x.dst x.op = opK3 C s x.op := by
 have h' : kkd C x.dst x.op = .store := h
 unfold opD; rw [h']
theorem Hz (h : kk C x = .alloc) : opD C s x.dst x.op = opK4 C s x.dst x.op := by
 have h' : kkd C x.dst x.op = .alloc := h
 unfold opD; rw [h']
theorem Avt (h : kk C x = .row) : opD C s x.dst x.op = opE C s x.dst x.op := by
 have h' : kkd C x.dst x.op = .row := h
 unfold opD; rw [h']
theorem M4 {d : Nat} (h : d ∉ o.looksAt ops) : ∀ x ∈ o.op.operands, x ≠ .tmp d := by
 intro x hx e
 subst e
 exact h (List.mem_append_left _ (List.mem_filterMap.2 ⟨.tmp d, by simpa using hx, rfl⟩))
theorem At9 (h : ∀ d, y.dst = some d → d ∉ x.looksAt ops) : ∀ z ∈ x.op.operands, (s.put y.dst v).get z = s.get z := by
 intro z hz
 cases hd : y.dst with
 | none => rfl
 | some d => exact Bn (M4 (h d hd) z hz)
theorem Abx {v : AV} (o : Option St) : o.map (fun z => z.put none v) = o := by cases o <;> rfl
theorem h_call (hk : kk C x = .call) (hg : x.guard = none) (hfr : FrO C x s) (hc : Bx y.op = false) (hy : (isR y.op || (match y.op with | .load _ _ => true | _ => false)) = true) (hr : Fu C y (tB C x) = true)
  (a1 : ∀ d, y.dst = some d → d ∉ x.looksAt ops) (a2 : ∀ d, x.dst = some d → y.dst ≠ some d) (a3 : ∀ d, x.dst = some d → d ∉ y.looksAt ops) :
  (∀ v, Vg C ops y s = some v → (Az (opD C) ops (s.put y.dst v) x).val = ((Az (opD C) ops s x).val).map fun z => z.put y.dst (id v)) ∧
  (∀ s1, (Az (opD C) ops s x).val = some s1 → Vg C ops y s1 = (Vg C ops y s).map id) := by
 obtain ⟨f, as, ts, d, W, ho, hd, hW⟩ := Aur hk
 have hmB : mkB C x = W.2.1 := by unfold mkB; rw [hk, hd]; simp only [hW]
 have hmO : mkO C x = W.2.2 := by unfold mkO; rw [hk, hd]; simp only [hW]
 have htB : tB C x = W.1.1 ++ W.2.1 := by unfold tB; rw [hk, hd]; simp only [hW]
 unfold FrO at hfr
 rw [hmB, hmO] at hfr
 constructor
 ·intro v hv
  rw [De hg, De hg, Rk hk, Rk hk, ho, hd]
  have hgs := At9 (x := x) (y := y) (s := s) (v := v) a1
  rw [ho] at hgs
  have e1 := hgs f (by simp [Op.operands, Call.operands])
  have e2 : as.toList.map (s.put y.dst v).get = as.toList.map s.get := List.map_congr_left fun z hz => hgs z (by simp [Op.operands, Call.operands]; exact .inr (Array.mem_def.2 hz))
  simp only [opK2, e1, e2, hW]
  cases Ax (s.get f) with
  | none => rfl
  | some l =>
   cases l <;> first | rfl | skip
   simp only []
   cases hyd : y.dst with
   | none => exact (Abx _).symm
   | some e =>
    exact N1 (fun h => a2 d hd (by rw [hyd, h])) (fun n hn => ⟨hfr.1 n hn, Lf (Of n) (hfr.1 n hn) hv⟩) (fun n hn => ⟨hfr.2 n hn, Lf (Lp n) (hfr.2 n hn) hv⟩) _
 ·intro s1 h1
  rw [De hg, Rk hk, ho, hd] at h1
  simp only [opK2, hW] at h1
  rw [Option.map_id]
  split at h1
  ·rename_i hWe
   cases hWe
   obtain ⟨⟨w, h2⟩, h3⟩ := A15 h1
   refine Nn hc (fun z hz => Aa0 h2 fun e => a3 d hd (hz d e)) ?_ hr (fun b hb => h3 b (by rw [← htB]; exact hb))
   rcases Bool.or_eq_true _ _ ▸ hy with hy | hy
   ·exact .inl hy
   ·refine .inr (.inl ?_)
    split at hy
    ·rename_i T a e; exact ⟨T, a, e⟩
    ·cases hy
  ·cases h1
theorem Bgs {T n : Nat} {z : Operand} {e : Option Nat} (hn : ∀ q ∈ (Op.store T (.tmp n) z).operands, (s.put e v).get q = s.get q) :
  (opK3 C (s.put e v) (.store T (.tmp n) z)).val = ((opK3 C s (.store T (.tmp n) z)).val).map fun u => u.put e v := by
 have g1 := hn (.tmp n) (by simp [Op.operands])
 have g2 := hn z (by simp [Op.operands])
 have hbox : ∀ b, Ah (s.put e v) b = Ah s b := fun b => by cases e <;> rfl
 simp only [opK3, g1]
 cases B8 C.sr n with
 | none => rfl
 | some b =>
  cases hl : Ax (s.get (.tmp n)) with
  | none => rfl
  | some l =>
   cases l <;> first | rfl | skip
   rename_i b' o'
   simp only []
   by_cases hb : b' = b
   ·rw [if_pos hb, if_pos hb]
    simp only [opE, g1, g2, hl]
    cases Dq (s.get z) with
    | none => rfl
    | some new =>
     cases Bp C.P T with
     | none => rfl
     | some m =>
      simp only [hbox]
      cases Ah s b' with
      | none => rfl
      | some ls =>
       simp only []
       split
       ·cases e <;> rfl
       ·rfl
   ·rw [if_neg hb, if_neg hb]; rfl
theorem Avu {T n b : Nat} {z : Operand} (hb : B8 C.sr n = some b) (h : (opK3 C s (.store T (.tmp n) z)).val = some s') :
  ∃ ls new, Dq (s.get z) = some new ∧ Ah s b = some ls ∧ ∃ k, s' = Bc s b (splice ls k new) := by
 simp only [opK3, hb] at h
 cases hl : Ax (s.get (.tmp n)) with
 | none => rw [hl] at h; cases h
 | some l =>
  rw [hl] at h
  cases l <;> first | (cases h; done) | skip
  rename_i b' o'
  simp only [] at h
  split at h
  ·rename_i he
   subst he
   simp only [opE, hl] at h
   cases hn : Dq (s.get z) with
   | none => rw [hn] at h; cases h
   | some new =>
    rw [hn] at h
    cases hz : Bp C.P T with
    | none => rw [hz] at h; cases h
    | some m =>
     rw [hz] at h
     simp only [] at h
     cases hx : Ah s b' with
     | none => rw [hx] at h; cases h
     | some ls =>
      rw [hx] at h
      simp only [] at h
      split at h
      ·cases h; exact ⟨ls, new, rfl, rfl, o', rfl⟩
      ·cases h
  ·cases h
theorem h_store (hk : kk C x = .store) (hg : x.guard = none) (hc : Bx y.op = false) (hr : Fu C y (match x.op with | .store _ (.tmp n) _ => (match B8 C.sr n with | some b => [b] | none => []) | _ => []) = true)
  (a1 : ∀ d, y.dst = some d → d ∉ x.looksAt ops) :
  (∀ v, Vg C ops y s = some v → (Az (opD C) ops (s.put y.dst v) x).val = ((Az (opD C) ops s x).val).map fun z => z.put y.dst (id v)) ∧
  (∀ s1, (Az (opD C) ops s x).val = some s1 → Vg C ops y s1 = (Vg C ops y s).map id) := by
 obtain ⟨T, n, z, b, ho, hd, hb⟩ := Aut hk
 constructor
 ·intro v hv
  rw [De hg, De hg, Rl hk, Rl hk, ho]
  have hgs := At9 (x := x) (y := y) (s := s) (v := v) a1
  rw [ho] at hgs
  exact Bgs hgs
 ·intro s1 h1
  rw [De hg, Rl hk, ho] at h1
  obtain ⟨ls, new, _, _, k, rfl⟩ := Avu hb h1
  rw [Option.map_id]
  rw [ho] at hr
  simp only [hb] at hr
  refine Nn (bs := [b]) hc (fun z _ => by cases z <;> rfl) (.inr (.inr fun l => rfl)) hr fun c hcb => ?_
  simp only [Ah, Bc]
  rw [List.getElem?_set_ne (by simp at hcb; exact fun e => hcb e.symm)]
theorem Ac8 {d : Nat} {ls : List L} (h : Ck s (N0 + d) = true) : (Il s d ls).val = some ((Bc s (N0 + d) ls).put (some d) (lf (.ptr (N0 + d) 0))) := by
 unfold Il; rw [if_pos h]; rfl
theorem h_alloc (hk : kk C x = .alloc) (hg : x.guard = none) (hfr : FrO C x s) (hc : Bx y.op = false) (hr : Fu C y (tB C x) = true)
  (a1 : ∀ d, y.dst = some d → d ∉ x.looksAt ops) (a2 : ∀ d, x.dst = some d → y.dst ≠ some d) (a3 : ∀ d, x.dst = some d → d ∉ y.looksAt ops) :
  (∀ v, Vg C ops y s = some v → (Az (opD C) ops (s.put y.dst v) x).val = ((Az (opD C) ops s x).val).map fun z => z.put y.dst (id v)) ∧
  (∀ s1, (Az (opD C) ops s x).val = some s1 → Vg C ops y s1 = (Vg C ops y s).map id) := by
 obtain ⟨T, d, ho, hd⟩ := Q9 hk
 have hmB : mkB C x = [N0 + d] := by unfold mkB; rw [hk, hd]
 have htB : tB C x = [N0 + d] := by unfold tB; rw [hk, hd]
 have hf : s.all (L.noB (N0 + d)) = true := hfr.1 _ (by rw [hmB]; simp)
 constructor
 ·intro v hv
  rw [De hg, De hg, Hz hk, Hz hk, ho, hd]
  have hvn := Lf (Of (N0 + d)) hf hv
  simp only [opK4]
  split
  ·rfl
  ·cases Di C.P T with
   | none => rfl
   | some ls =>
    simp only []
    cases hyd : y.dst with
    | none => exact (Abx _).symm
    | some e =>
     have hne : e ≠ d := fun h => a2 d hd (by rw [hyd, h])
     unfold Il
     rw [Aap hf hvn]
     split
     ·simp only [Oc.val, Option.map_some]
      congr 1
      show ((Bc s (N0 + d) ls).put (some e) v).put (some d) _ = _
      exact K6 fun k h1 h2 => hne (by cases h1; cases h2; rfl)
     ·rfl
 ·intro s1 h1
  rw [De hg, Hz hk, ho, hd] at h1
  simp only [opK4] at h1
  rw [Option.map_id]
  split at h1
  ·cases h1
  ·split at h1
   ·obtain ⟨_, rfl⟩ := Jr h1
    refine Nn (bs := [N0 + d]) hc (fun z hz => Aa0 (d := d) rfl fun e => a3 d hd (hz d e)) (.inr (.inr fun l => rfl)) (by rw [← htB]; exact hr) fun c hcb => ?_
    simp only [Ah, Bc, St.put]
    rw [List.getElem?_set_ne (by simp at hcb; exact fun e => hcb e.symm)]
   ·cases h1
theorem h_boxr (hk : kk C x = .boxr) (hg : x.guard = none) (hfr : FrO C x s) (hc : Bx y.op = false) (hr : Fu C y (tB C x) = true)
  (a1 : ∀ d, y.dst = some d → d ∉ x.looksAt ops) (a2 : ∀ d, x.dst = some d → y.dst ≠ some d) (a3 : ∀ d, x.dst = some d → d ∉ y.looksAt ops) :
  (∀ v, Vg C ops y s = some v → (Az (opD C) ops (s.put y.dst v) x).val = ((Az (opD C) ops s x).val).map fun z => z.put y.dst (id v)) ∧
  (∀ s1, (Az (opD C) ops s x).val = some s1 → Vg C ops y s1 = (Vg C ops y s).map id) := by
 obtain ⟨T, len, ps, d, ho, hd⟩ := Auq hk
 have hmB : mkB C x = [N0 + d] := by unfold mkB; rw [hk, hd]
 have htB : tB C x = [N0 + d] := by unfold tB; rw [hk, hd]
 have hf : s.all (L.noB (N0 + d)) = true := hfr.1 _ (by rw [hmB]; simp)
 constructor
 ·intro v hv
  rw [De hg, De hg, Rj hk ho hd, Rj hk ho hd]
  have hvn := Lf (Of (N0 + d)) hf hv
  have hgs : B9 (s.put y.dst v) ps.toList = B9 s ps.toList := by
   cases hyd : y.dst with
   | none => rfl
   | some e => exact Rq ps.toList fun z hz => M4 (a1 e hyd) z.2 (by rw [ho]; simp only [Op.operands]; exact List.mem_toArray.2 (List.mem_map.2 ⟨z, hz, rfl⟩))
  unfold Hk
  rw [hgs]
  cases Bou C.P T with
  | none => rfl
  | some e0 =>
   simp only []
   cases B9 s ps.toList with
   | none => rfl
   | some q =>
    cases hz : Di C.P e0 with
    | none => rfl
    | some zl =>
     match zl with
     | [] => rfl
     | _ :: _ :: _ => rfl
     | [z] =>
      simp only []
      cases E6 (fun i => some (i * 1, 1)) (List.replicate len z) q with
      | none => rfl
      | some ls =>
       simp only []
       cases hyd : y.dst with
       | none => exact (Abx _).symm
       | some e =>
        have hne : e ≠ d := fun h => a2 d hd (by rw [hyd, h])
        rw [Aap hf hvn]
        split
        ·simp only [Oc.val, Option.map_some]
         congr 1
         show ((Bc s (N0 + d) ls).put (some e) v).put (some d) _ = _
         exact K6 fun k h1 h2 => hne (by cases h1; cases h2; rfl)
        ·rfl
 ·intro s1 h1
  rw [De hg, Rj hk ho hd] at h1
  rw [Option.map_id]
  obtain ⟨_, _, _, _, ls, _, _, _, _, rfl⟩ := Adw h1
  refine Nn (bs := [N0 + d]) hc (fun z hz => Aa0 (d := d) rfl fun e => a3 d hd (hz d e)) (.inr (.inr fun l => rfl)) (by rw [← htB]; exact hr) fun c hcb => ?_
  simp only [Ah, Bc, St.put]
  rw [List.getElem?_set_ne (by simp at hcb; exact fun e => hcb e.symm)]
theorem Aa8 {f : L → L} {v : AV} : Ax (v.map f) = (Ax v).map f := by
 cases v with
 | dead => rfl
 | tup cs => rfl
 | cv c => cases c <;> rfl
theorem fD_pt {D : Nat → Bool} {q : Nat → Option PL} {l : L} : ptL (fD D q l) = ptL l ∧ ∀ r, ldL r (fD D q l) = ldL r l := by
 cases l with
 | own m => simp only [fD]; split; (split <;> exact ⟨rfl, fun _ => rfl⟩); exact ⟨rfl, fun _ => rfl⟩
 | ept m i o z => simp only [fD]; split <;> exact ⟨rfl, fun _ => rfl⟩
 | _ => exact ⟨rfl, fun _ => rfl⟩
theorem Bf6 {agg : Bool} {ls : List L} {f : L → L} : mkAV agg (ls.map f) = (mkAV agg ls).map (AV.map f) := by
 unfold mkAV
 cases agg with
 | true => rfl
 | false =>
  match ls with
  | [] => rfl
  | [l] => rfl
  | l :: m :: r => rfl
theorem load_gm {D : Nat → Bool} {q : Nat → Option PL} (g : ∀ b, Ah t b = (Ah s b).map (List.map (fD D q))) {n : Nat} {l : L} (hl : ptL l = true) : Cu t n l = (Cu s n l).map (List.map (fD D q)) := by
 cases l with
 | ptr b k =>
  simp only [Cu, g]
  cases Ah s b with
  | none => rfl
  | some ls =>
   simp only [Option.map_some, Option.bind_some, List.length_map]
   split
   ·simp
   ·rfl
 | rpt ps =>
  simp only [Cu]
  split
  ·simp only [Option.map_some]; rw [pvs_map]
  ·rfl
 | _ => cases hl
theorem Vv_gm {D : Nat → Bool} {q : Nat → Option PL} (hpt : isPt C y = true) (h : ∀ z ∈ y.op.operands, t.get z = (s.get z).map (fD D q)) (g : ∀ b, Ah t b = (Ah s b).map (List.map (fD D q))) : Vv C y t = (Vv C y s).map (AV.map (fD D q)) := by
 unfold isPt at hpt
 unfold Vv
 split at hpt
 ·rename_i z d ho hd
  rw [ho] at h ⊢
  rw [hd]
  have hz := h z (by simp [Op.operands])
  simp only [ldOk, opVD, opV, hz, if_true]
  rfl
 ·rename_i z d ho hd
  rw [ho] at h ⊢
  rw [hd]
  have hz := h z (by simp [Op.operands])
  simp only [ldOk, opVD, opV, hz, if_true]
  rfl
 ·rename_i T z d ho hd
  rw [ho] at h ⊢
  rw [hd]
  have hz := h z (by simp [Op.operands])
  obtain ⟨r, hr⟩ := Option.isSome_iff_exists.1 hpt
  simp only [ldOk, opVD, opV, hz, hr, Aa8]
  cases Ax (s.get z) with
  | none => rfl
  | some l =>
   simp only [Option.map_some, fD_pt.2]
   by_cases hL : ldL r l = true
   rotate_left
   ·rw [if_neg hL, if_neg hL]; rfl
   ·rw [if_pos hL, if_pos hL]
    have hp : ptL l = true := by cases l <;> first | rfl | cases hL
    have hfl : fD D q l = l := by cases l <;> first | rfl | cases hL
    simp only [hfl]
    cases Bp C.P T with
    | none => rfl
    | some n =>
     simp only []
     split
     ·simp only [Oc.val_ofOption, load_gm g hp]
      cases Cu s n l with
      | none => rfl
      | some ls => simp only [Option.map_some, Option.bind_some, Bf6]
     ·rfl
 ·rename_i z d ho hd
  rw [ho] at h ⊢
  rw [hd]
  have hz := h z (by simp [Op.operands])
  obtain ⟨r, hr⟩ := Option.isSome_iff_exists.1 hpt
  simp only [ldOk, opVD, opV, hz, hr, Aa8]
  cases Ax (s.get z) with
  | none => rfl
  | some l =>
   cases l <;> first | rfl | skip
   all_goals simp only [Option.map_some, fD]; all_goals (repeat' split) <;> first | rfl | skip
   all_goals simp_all [ptL]
 ·rename_i S z f d ho hd
  rw [ho] at h ⊢
  rw [hd]
  have hz := h z (by simp [Op.operands])
  obtain ⟨r, hr⟩ := Option.isSome_iff_exists.1 hpt
  simp only [ldOk, opVD, opV, hz, hr, Aa8]
  cases Ax (s.get z) with
  | none => rfl
  | some l =>
   simp only [Option.map_some, fD_pt.1]
   by_cases hL : ptL l = true
   rotate_left
   ·rw [if_neg hL, if_neg hL]; rfl
   ·rw [if_pos hL, if_pos hL]
    cases l <;> first | (cases hL; done) | skip
    ·cases I0 C.P S f with
     | none => rfl
     | some k => rfl
    ·cases I0 C.P S f with
     | none => rfl
     | some k => rfl
 ·cases hpt
theorem Bjm {n e : Nat} {w : Option Own} : Be (s.put (some e) v) n w = (Be s n w).put (some e) v := rfl
theorem h_row (hk : kk C x = .row) (hg : x.guard = none) (hyg : y.guard = none) (hfr : FrO C x s) (hpt : isPt C y = true)
  (a1 : ∀ d, y.dst = some d → d ∉ x.looksAt ops) (a2 : ∀ d, x.dst = some d → y.dst ≠ some d) (a3 : ∀ d, x.dst = some d → d ∉ y.looksAt ops) : ∃ φ : AV → AV,
  (∀ v, Vg C ops y s = some v → (Az (opD C) ops (s.put y.dst v) x).val = ((Az (opD C) ops s x).val).map fun z => z.put y.dst (φ v)) ∧
  (∀ s1, (Az (opD C) ops s x).val = some s1 → Vg C ops y s1 = (Vg C ops y s).map φ) := by
 obtain ⟨hE, d, hd⟩ := Aus hk
 have hmO : mkO C x = [N0 + d] := by unfold mkO; rw [hk, hd]
 have hf : s.all (L.noO (N0 + d)) = true := hfr.2 _ (by rw [hmO]; simp)
 have hstep : ∀ u : St, (Az (opD C) ops u x).val = (Fr C.P u x.op).bind fun z => (Df (z.1 u) d z.2).val := fun u => by
  rw [De hg, Avt hk, hd]
  exact Awi hE
 obtain ⟨e, hyd⟩ : ∃ e, y.dst = some e := by
  unfold isPt at hpt
  split at hpt <;> first | (cases hpt; done) | (rename_i hh; exact ⟨_, hh⟩)
 have hne : e ≠ d := fun h => a2 d hd (by rw [hyd, h])
 have hVg : ∀ u : St, Vg C ops y u = Vv C y u := fun u => by unfold Vg; rw [hyg]
 cases hpl : Fr C.P s x.op with
 | none =>
  refine ⟨id, fun v hv => ?_, fun s1 h1 => ?_⟩
  ·rw [hstep, hstep, hyd, Awh hE (M4 (a1 e hyd)), hpl]; rfl
  ·rw [hstep, hpl] at h1; cases h1
 | some gw =>
  obtain ⟨g, w⟩ := gw
  obtain ⟨D, q, gm, gp⟩ := Awg hpl s
  dsimp only at gm gp
  have hgf := Aub (Lp (N0 + d)) gm hf
  refine ⟨AV.map (fD D q), fun v hv => ?_, fun s1 h1 => ?_⟩
  ·rw [hstep, hstep, hyd, Awh hE (M4 (a1 e hyd)), hpl]
   simp only [Option.bind_some]
   rw [gp e v]
   have hvn : (v.map (fD D q)).all (L.noO (N0 + d)) = true := Adi (fun l hl => Ta (Lp _) hl) (Lf (Lp (N0 + d)) hf hv)
   unfold Df
   rw [Atp hgf hvn]
   split
   ·simp only [Oc.val, Option.map_some]
    congr 1
    rw [Bjm]
    exact K6 fun k h1 h2 => hne (by cases h1; cases h2; rfl)
   ·rfl
  ·rw [hstep, hpl] at h1
   simp only [Option.bind_some] at h1
   obtain ⟨_, rfl⟩ := In h1
   rw [hVg, hVg]
   refine Vv_gm hpt (fun z hz => ?_) fun b => ?_
   ·rw [Bn (M4 (a3 d hd) z hz)]
    exact gm_get (t := g s) gm z
   ·exact Be6 (t := g s) gm b
theorem comm_al {x y : Oper} (hy : kk C y = .alloc) (hx : kk C x = .alloc) (gy : y.guard = none) (gx : x.guard = none) (fx : FrO C x s) (a2 : ∀ d, x.dst = some d → y.dst ≠ some d) {s1 s2 : St}
  (h1 : (Az (opD C) ops s y).val = some s1) (h2 : (Az (opD C) ops s1 x).val = some s2) : ∃ s3, (Az (opD C) ops s x).val = some s3 ∧ (Az (opD C) ops s3 y).val = some s2 := by
 obtain ⟨T, d, ho, hd⟩ := Q9 hy
 obtain ⟨U, e, ho2, he⟩ := Q9 hx
 have hne : d ≠ e := fun h => a2 e he (by rw [hd, h])
 have hmB : mkB C x = [N0 + e] := by unfold mkB; rw [hx, he]
 have hf : s.all (L.noB (N0 + e)) = true := fx.1 _ (by rw [hmB]; simp)
 rw [De gy, Hz hy, ho, hd] at h1
 rw [De gx, Hz hx, ho2, he] at h2
 simp only [opK4] at h1 h2
 split at h1
 ·cases h1
 rename_i hb1
 split at h2
 ·cases h2
 rename_i hb2
 split at h1
 rotate_left
 ·cases h1
 rename_i ls hz
 split at h2
 rotate_left
 ·cases h2
 rename_i ls2 hz2
 obtain ⟨f1, rfl⟩ := Jr h1
 obtain ⟨f2, rfl⟩ := Jr h2
 have hn : N0 + d ≠ N0 + e := fun h => hne (Nat.add_left_cancel h)
 have fe : Ck s (N0 + e) = true := by
  unfold Ck at f2 ⊢
  rw [Bool.and_eq_true] at f2 ⊢
  refine ⟨?_, hf⟩
  have := f2.1
  simp only [Bc, St.put] at this
  rwa [List.getElem?_set_ne hn] at this
 refine ⟨(Bc s (N0 + e) ls2).put (some e) (lf (.ptr (N0 + e) 0)), ?_, ?_⟩
 ·rw [De gx, Hz hx, ho2, he]
  simp only [opK4]
  rw [if_neg hb2]
  simp only [hz2]
  exact Ac8 fe
 ·rw [De gy, Hz hy, ho, hd]
  simp only [opK4]
  rw [if_neg hb1]
  simp only [hz]
  have fd : Ck ((Bc s (N0 + e) ls2).put (some e) (lf (.ptr (N0 + e) 0))) (N0 + d) = true := by
   unfold Ck at f1 ⊢
   rw [Bool.and_eq_true] at f1 ⊢
   refine ⟨?_, Ex (Nr f1.2 fun l hl => ?_) (Cs (by simp [L.noB]; exact fun e => hne e.symm))⟩
   ·simp only [Bc, St.put]
    rw [List.getElem?_set_ne (Ne.symm hn)]
    exact f1.1
   ·obtain ⟨i, u, _, _, rfl, _⟩ := Hc hz2
    obtain ⟨u, _, rfl⟩ := List.mem_map.1 hl
    exact Ls _ u
  rw [Ac8 fd]
  congr 1
  show (((Bc (Bc s (N0 + e) ls2) (N0 + d) ls).put (some e) _).put (some d) _) = (((Bc (Bc s (N0 + d) ls) (N0 + e) ls2).put (some d) _).put (some e) _)
  rw [K6 (x := some e) (y := some d) fun k h1 h2 => hne (by cases h1; cases h2; rfl)]
  congr 2
  simp only [Bc]
  congr 1
  exact List.set_comm _ _ (fun e => hn e.symm)
theorem Abp (hp : Clo p) (hal : (isNo C x && !isV x.op) = false) (hs : s.all p = true) (hB : ∀ b ∈ tB C x, (∀ k, p (.ptr b k) = true) ∧ ∀ t z, p (.bld b t z) = true) (hO : ∀ l ∈ tO C x, p (.own l) = true)
  (h : (opD C s x.dst x.op).val = some s') : s'.all p = true := by
 cases hk : kk C x with
 | no =>
  have hk' : kkd C x.dst x.op = .no := hk
  have hno : isNo C x = true := by unfold isNo; rw [hk]
  rw [hno] at hal
  have hv : isV x.op = true := by simpa using hal
  unfold opD at h
  rw [hk'] at h
  simp only [opDn] at h
  rw [if_pos hv] at h
  split at h
  ·cases h
  ·split at h
   ·rename_i hl
    rw [Oc.val_bind] at h
    obtain ⟨v, h1, h2⟩ := Option.bind_eq_some_iff.1 h
    cases h2
    have : Vv C x s = some v := by unfold Vv; rw [if_pos hl]; exact h1
    exact Ex hs (Ac6 hp hs this)
   ·cases h
 | call =>
  obtain ⟨f, as, ts, d, W, ho, hd, hW⟩ := Aur hk
  have htB : tB C x = W.1.1 ++ W.2.1 := by unfold tB; rw [hk, hd]; simp only [hW]
  have htO : tO C x = W.1.2 ++ W.2.2 := by unfold tO; rw [hk, hd]; simp only [hW]
  rw [htB] at hB
  rw [htO] at hO
  rw [Rk hk, ho, hd] at h
  simp only [opK2, hW] at h
  split at h
  ·rename_i hWe
   cases hWe
   exact A14 hp h hs (fun b hb => (hB b hb).1) (fun b hb => (hB b hb).2) hO
  ·cases h
 | store =>
  obtain ⟨T, n, z, b, ho, hd, hb⟩ := Aut hk
  rw [Rl hk, ho] at h
  obtain ⟨ls, new, h1, h2, k, rfl⟩ := Avu hb h
  refine Nr hs fun l hl => ?_
  simp only [splice, List.mem_append] at hl
  rcases hl with (hl | hl) | hl
  ·exact Hg hs h2 l (List.mem_of_mem_take hl)
  ·exact Ad5 hp hs h1 l hl
  ·exact Hg hs h2 l (List.mem_of_mem_drop hl)
 | alloc =>
  obtain ⟨T, d, ho, hd⟩ := Q9 hk
  have htB : tB C x = [N0 + d] := by unfold tB; rw [hk, hd]
  rw [Hz hk, ho, hd] at h
  simp only [opK4] at h
  split at h
  ·cases h
  ·split at h
   ·rename_i ls hz
    obtain ⟨_, rfl⟩ := Jr h
    refine Ex (Nr hs fun l hl => ?_) (Cs ((hB (N0 + d) (by rw [htB]; simp)).1 0))
    obtain ⟨i, u, _, _, rfl, _⟩ := Hc hz
    obtain ⟨u, _, rfl⟩ := List.mem_map.1 hl
    exact Oe hp u
   ·cases h
 | row =>
  obtain ⟨hE, d, hd⟩ := Aus hk
  have htO : tO C x = [N0 + d] := by unfold tO; rw [hk, hd]
  rw [Avt hk, hd, Awi hE] at h
  obtain ⟨⟨g, w⟩, p1, p2⟩ := Option.bind_eq_some_iff.1 h
  obtain ⟨_, rfl⟩ := In p2
  obtain ⟨D, q, gm, _⟩ := Awg p1 s
  exact Ex (Adn (Aub hp gm hs)) (Cs (hO (N0 + d) (by rw [htO]; simp)))
 | boxr =>
  obtain ⟨T, len, ps, d, ho, hd⟩ := Auq hk
  have htB : tB C x = [N0 + d] := by unfold tB; rw [hk, hd]
  rw [Rj hk ho hd] at h
  obtain ⟨_, q, _, u, ls, hq, _, hls, _, rfl⟩ := Adw h
  refine Ex (Nr hs fun l hl => ?_) (Cs (hp.sb _ 0 _ ((hB (N0 + d) (by rw [htB]; simp)).1 0)))
  rcases Va _ _ _ _ hls l hl with h3 | ⟨z, hz, h3⟩
  ·rw [List.eq_of_mem_replicate h3]
   exact Oe hp u
  ·exact Sp hp hs _ _ hq z hz l h3
theorem Avy (hp : Clo p) (hal : (isNo C x && !isV x.op) = false) (hs : s.all p = true) (hB : ∀ b ∈ tB C x, (∀ k, p (.ptr b k) = true) ∧ ∀ t z, p (.bld b t z) = true) (hO : ∀ l ∈ tO C x, p (.own l) = true)
  (h : (Az (opD C) ops s x).val = some s') : s'.all p = true := by
 unfold Az at h
 split at h
 ·exact Abp hp hal hs hB hO h
 ·split at h
  ·rename_i g _
   split at h
   ·rename_i c _
    have ht : ∀ b, (s.put (some g) (lf (pvB b))).all p = true := fun b => Ex hs (Cs (hp.pv _))
    have hu : ∀ b, ((s.put (some g) (lf (pvB b))).put x.dst (.tup [])).all p = true := fun b => Ex (ht b) rfl
    split at h
    ·simp only [Oc.val] at h
     cases c
     ·cases h; exact hu _
     ·exact Abp hp hal (ht _) hB hO h
    ·simp only [Oc.val] at h
     cases c
     ·exact Abp hp hal (ht _) hB hO h
     ·cases h; exact hu _
   ·split at h
    ·cases h; exact Ex hs rfl
    ·cases h
  ·cases h
theorem Aeq {a b : List Nat} (h : disj a b = true) {x : Nat} (hx : x ∈ a) : x ∉ b := by
 have := List.all_eq_true.1 h x hx
 simpa using this
theorem fr_step (ha : Ey C x y = true) (hf : FrO C y s) (h : (Az (opD C) ops s x).val = some s') : FrO C y s' := by
 unfold Ey at ha
 simp only [Bool.and_eq_true] at ha
 obtain ⟨h1, h2, h3⟩ := ha
 cases hal : (isNo C x && !isV x.op) with
 | true =>
  rw [hal] at h1
  simp only [Bool.not_true, Bool.false_or, Bool.and_eq_true, List.isEmpty_iff] at h1
  unfold FrO
  rw [h1.1, h1.2]
  exact ⟨by simp, by simp⟩
 | false =>
  refine ⟨fun n hn => Avy (Of n) hal (hf.1 n hn) (fun b hb => ?_) (fun l hl => rfl) h, fun n hn => Avy (Lp n) hal (hf.2 n hn) (fun b hb => ⟨fun _ => rfl, fun _ _ => rfl⟩) (fun l hl => ?_) h⟩
  ·have : b ≠ n := fun e => Aeq h2 hb (by rw [e]; exact hn)
   exact ⟨fun _ => by simpa [L.noB] using this, fun _ _ => by simpa [L.noB] using this⟩
  ·have : l ≠ n := fun e => Aeq h3 hl (by rw [e]; exact hn)
   simpa [L.noO] using this
theorem pair_sw (h : Ji C ops y x = true) (fy : FrO C y s) (fx : FrO C x s) {s1 s2 : St}
  (h1 : (Az (opD C) ops s y).val = some s1) (h2 : (Az (opD C) ops s1 x).val = some s2) : ∃ s3, (Az (opD C) ops s x).val = some s3 ∧ (Az (opD C) ops s3 y).val = some s2 := by
 unfold Ji at h
 rw [Bool.and_eq_true] at h
 obtain ⟨h0, hap⟩ := h
 obtain ⟨a1, a2, a3⟩ := Oper.apart_spec hap
 have hbes : ∀ {y x : Oper}, beside C y x = true → FrO C x s → (∀ d, y.dst = some d → d ∉ x.looksAt ops) → (∀ d, x.dst = some d → y.dst ≠ some d) → (∀ d, x.dst = some d → d ∉ y.looksAt ops) →
   kk C y = .no ∧ isV y.op = true ∧ Bx y.op = false ∧ ∃ φ : AV → AV, (∀ v, Vg C ops y s = some v → (Az (opD C) ops (s.put y.dst v) x).val = ((Az (opD C) ops s x).val).map fun z => z.put y.dst (φ v)) ∧
   (∀ s1, (Az (opD C) ops s x).val = some s1 → Vg C ops y s1 = (Vg C ops y s).map φ) := by
  intro y x hb fx b1 b2 b3
  unfold beside at hb
  simp only [Bool.and_eq_true, Bool.not_eq_true'] at hb
  obtain ⟨k1, k2, k3, k4⟩ := hb
  refine ⟨Aa5 k1, k2, k3, ?_⟩
  split at k4
  ·cases k4
  ·rename_i hk
   simp only [Bool.and_eq_true, Option.isNone_iff_eq_none] at k4
   exact ⟨id, h_call hk k4.1 fx k3 k4.2.1 k4.2.2 b1 b2 b3⟩
  ·rename_i hk
   simp only [Bool.and_eq_true, Option.isNone_iff_eq_none] at k4
   exact ⟨id, h_store hk k4.1 k3 k4.2 b1⟩
  ·rename_i hk
   simp only [Bool.and_eq_true, Option.isNone_iff_eq_none] at k4
   exact ⟨id, h_alloc hk k4.1 fx k3 k4.2 b1 b2 b3⟩
  ·rename_i hk
   simp only [Bool.and_eq_true, Option.isNone_iff_eq_none] at k4
   exact h_row hk k4.1 k4.2.1 fx k4.2.2 b1 b2 b3
  ·rename_i hk
   simp only [Bool.and_eq_true, Option.isNone_iff_eq_none] at k4
   exact ⟨id, h_boxr hk k4.1 fx k3 k4.2 b1 b2 b3⟩
 have a2' : ∀ d, x.dst = some d → y.dst ≠ some d := fun d hd he => a2 d he hd
 rw [Bool.or_eq_true, Bool.or_eq_true, Bool.or_eq_true] at h0
 rcases h0 with h0 | h0 | h0 | h0
 ·simp only [Bool.and_eq_true] at h0
  obtain ⟨⟨n1, w1⟩, n2, w2⟩ := h0
  obtain ⟨v1, c1⟩ := Auk w1
  obtain ⟨v2, c2⟩ := Auk w2
  exact Bj0 (Aa5 n1) (Aa5 n2) v1 v2 c1 c2 hap h1 h2
 ·obtain ⟨k1, k2, k3, φ, H1, H2⟩ := hbes h0 fx a1 a2' a3
  exact sw_gen1 k1 k2 k3 H1 H2 h1 h2
 ·obtain ⟨k1, k2, k3, φ, H1, H2⟩ := hbes h0 fy a3 a2 a1
  exact sw_gen2 k1 k2 k3 H1 H2 h1 h2
 ·unfold twoAl at h0
  split at h0
  ·rename_i ky kx
   simp only [Bool.and_eq_true, Option.isNone_iff_eq_none] at h0
   exact comm_al ky kx h0.1 h0.2 fx a2' h1 h2
  ·cases h0
end
section
variable {C : Cfg} {F : Nat → Prop} {s s' : St} {G : Gm} {a : Act} {w w' : World}
def stp (C : Cfg) (ops : Array Oper) (j : Nat) (s : St) : Option St :=
 match ops[j]? with
 | some o => (Az (opD C) ops s o).val
 | none => some s
def fld (C : Cfg) (ops : Array Oper) : List Nat → St → Option St
 | [], s => some s
 | j :: r, s => (stp C ops j s).bind (fld C ops r)
theorem Ahl (ops : Array Oper) : ∀ (l : List Oper) (i : Nat) (s : St), (∀ (j : Nat) (o : Oper), l[j]? = some o → ops[i + j]? = some o) →
  l.foldl (fun x o => x.bind fun s => (Az (opD C) ops s o).val) (some s) = fld C ops (List.range' i l.length) s
 | [], i, s, h => rfl
 | o :: l, i, s, h => by
  have h0 : ops[i]? = some o := by simpa using h 0 o rfl
  simp only [List.foldl_cons, Option.bind_some, List.length_cons, List.range'_succ, fld, stp, h0]
  cases h1 : (Az (opD C) ops s o).val with
  | none => exact Ahm ops l
  | some s1 =>
   simp only [Option.bind_some]
   exact Ahl ops l (i + 1) s1 fun j o' hj => by
    have := h (j + 1) o' (by simpa using hj)
    rwa [show i + (j + 1) = i + 1 + j by omega] at this
theorem Vk (ops : Array Oper) : ∀ (x y : List Nat) (s : St), fld C ops (x ++ y) s = (fld C ops x s).bind (fld C ops y)
 | [], y, s => rfl
 | j :: x, y, s => by
  simp only [List.cons_append, fld]
  cases h : stp C ops j s with
  | none => rfl
  | some s1 => simp only [Option.bind_some]; exact Vk ops x y s1
def FrA (C : Cfg) (ops : Array Oper) (j : Nat) (s : St) : Prop := ∀ o, ops[j]? = some o → FrO C o s
def Ap (C : Cfg) (ops : Array Oper) (j i : Nat) : Prop := ∀ y x, ops[j]? = some y → ops[i]? = some x → Ey C y x = true
theorem Acg {ops : Array Oper} {j i : Nat} {s s1 : St} (ha : Ap C ops j i) (hf : FrA C ops i s) (h : stp C ops j s = some s1) : FrA C ops i s1 := by
 intro o ho
 unfold stp at h
 split at h
 ·rename_i y hy
  exact fr_step (ha y o hy ho) (hf o ho) h
 ·cases h; exact hf o ho
def Sw (C : Cfg) (ops : Array Oper) (j i : Nat) : Prop := ∀ s s1 s2, FrA C ops j s → FrA C ops i s → stp C ops j s = some s1 → stp C ops i s1 = some s2 → ∃ s3, stp C ops i s = some s3 ∧ stp C ops j s3 = some s2
theorem Afb (ops : Array Oper) {i : Nat} : ∀ (x : List Nat) (s s' : St), (∀ j ∈ x, Sw C ops j i) → (∀ j ∈ x, FrA C ops j s) → FrA C ops i s → (x ++ [i]).Pairwise (Ap C ops) → fld C ops (x ++ [i]) s = some s' → fld C ops (i :: x) s = some s'
 | [], s, s', h, hx, hi, hp, hf => hf
 | j :: x, s, s', h, hx, hi, hp, hf => by
  simp only [List.cons_append, fld] at hf
  rw [List.cons_append, List.pairwise_cons] at hp
  obtain ⟨s1, h1, h2⟩ := Option.bind_eq_some_iff.1 hf
  have h3 := Afb ops x s1 s' (fun k hk => h k (by simp [hk])) (fun k hk => Acg (hp.1 k (by simp [hk])) (hx k (by simp [hk])) h1) (Acg (hp.1 i (by simp)) hi h1) hp.2 h2
  simp only [fld] at h3
  obtain ⟨s2, h4, h5⟩ := Option.bind_eq_some_iff.1 h3
  obtain ⟨s3, h6, h7⟩ := h j (by simp) s s1 s2 (hx j (by simp)) hi h1 h4
  simp only [fld, h6, h7, Option.bind_some]
  exact h5
def Deps (L : Nat → Prop) (o : Oper) : Prop := ∀ e ∈ o.after.toList, Region.binds .any e = true → L e.on
theorem Avf {x y : Nat} {l : List Nat} (h : y ∈ insN x l) : y = x ∨ y ∈ l := by
 unfold insN at h
 split at h
 ·exact .inr h
 ·simpa using h
theorem Ave {y : Nat} : ∀ {x l : List Nat}, y ∈ No x l → y ∈ x ∨ y ∈ l
 | [], l, h => .inr h
 | z :: x, l, h => by
  simp only [No] at h
  rcases Ave h with h | h
  ·exact .inl (by simp [h])
  ·rcases Avf h with h | h
   ·exact .inl (by simp [h])
   ·exact .inr h
theorem Abf {L : Nat → Prop} {acc : List (List Nat)} (hacc : ∀ (i : Nat) (l : List Nat), L i → acc[i]? = some l → ∀ j ∈ l, L j) {j : Nat} :
  ∀ (es : List Edge), (∀ e ∈ es, Region.binds .any e = true → L e.on) → j ∈ Lg acc es → L j
 | [], h, hj => by cases hj
 | e :: r, h, hj => by
  simp only [Lg] at hj
  split at hj
  ·rename_i hb
   rcases Avf hj with hj | hj
   ·rw [hj]; exact h e (by simp) hb
   ·rcases Ave hj with hj | hj
    ·cases he : acc[e.on]? with
     | none => rw [List.getD_eq_getElem?_getD, he] at hj; cases hj
     | some l =>
      rw [List.getD_eq_getElem?_getD, he] at hj
      exact hacc e.on l (h e (by simp) hb) he j hj
    ·exact Abf hacc r (fun e he => h e (by simp [he])) hj
  ·exact Abf hacc r (fun e he => h e (by simp [he])) hj
theorem Adq {L : Nat → Prop} (all : Array Oper) (hcl : ∀ (i : Nat) (o : Oper), all[i]? = some o → L i → Deps L o) :
  ∀ (l : List Oper) (acc : List (List Nat)), (∀ (j : Nat) (o : Oper), l[j]? = some o → all[acc.length + j]? = some o) →
  (∀ (i : Nat) (o : Oper) (x : List Nat), all[i]? = some o → acc[i]? = some x → Deps L o → ∀ j ∈ x, L j) → (acc.length ≤ all.size) →
  ∀ (i : Nat) (o : Oper) (x : List Nat), all[i]? = some o → (ancs l acc)[i]? = some x → Deps L o → ∀ j ∈ x, L j
 | [], acc, hl, hacc, hle => hacc
 | o :: l, acc, hl, hacc, hle => by
  simp only [ancs]
  have h0 : all[acc.length]? = some o := by simpa using hl 0 o rfl
  have hlt := (Array.getElem?_eq_some_iff.1 h0).1
  refine Adq all hcl l _ (fun j o' hj => ?_) (fun i o' x hi hx hD j hj => ?_) ?_
  ·have := hl (j + 1) o' (by simpa using hj)
   rw [List.length_append, List.length_singleton]
   rwa [show acc.length + (j + 1) = acc.length + 1 + j by omega] at this
  ·rcases Nat.lt_or_ge i acc.length with hlt | hge
   ·rw [List.getElem?_append_left hlt] at hx
    exact hacc i o' x hi hx hD j hj
   ·rw [List.getElem?_append_right hge] at hx
    cases hk : i - acc.length with
    | zero =>
     rw [hk] at hx
     simp at hx
     subst hx
     have hie : i = acc.length := by omega
     rw [hie, h0] at hi
     cases hi
     refine Abf (L := L) (fun i' l' hL hl' j' hj' => ?_) o.after.toList hD hj
     have hi' : i' < acc.length := (List.getElem?_eq_some_iff.1 hl').1
     cases ho' : all[i']? with
     | none => rw [Array.getElem?_eq_none_iff] at ho'; omega
     | some o2 => exact hacc i' o2 l' ho' hl' (hcl i' o2 ho' hL) j' hj'
    | succ n => rw [hk] at hx; simp at hx
  ·rw [List.length_append, List.length_singleton]; omega
theorem Aeu : ∀ (l : List Oper) (i : Nat), Qc l i = true → ∀ (j : Nat) (o : Oper), l[j]? = some o → ∀ e ∈ o.after.toList, Region.binds .any e = true → e.on < i + j
 | [], i, h, j, o, hj => by simp at hj
 | o :: l, i, h, j, o', hj => by
  simp only [Qc, Bool.and_eq_true] at h
  cases j with
  | zero =>
   simp at hj
   subst hj
   intro e he hb
   have := List.all_eq_true.1 h.1 e he
   simpa [hb] using this
  | succ n =>
   intro e he hb
   have := Aeu l (i + 1) h.2 n o' (by simpa using hj) e he hb
   omega
theorem Av5 {ops : Array Oper} {x : Oper} {an : List Nat} : ∀ (l : List Oper) (j : Nat), Ro C ops x an l j = true → ∀ (k : Nat) (y : Oper), l[k]? = some y → Ey C y x = true ∧ ((j + k) ∈ an ∨ (Ji C ops y x = true ∧ Ey C x y = true))
 | [], j, h, k, y, hk => by simp at hk
 | z :: l, j, h, k, y, hk => by
  simp only [Ro, Bool.and_eq_true, Bool.or_eq_true] at h
  cases k with
  | zero =>
   simp at hk
   subst hk
   refine ⟨h.1.1, ?_⟩
   rcases h.1.2 with h1 | h1
   ·exact .inl (by simpa using h1)
   ·exact .inr h1
  | succ n =>
   have h1 := Av5 l (j + 1) h.2 n y (by simpa using hk)
   rwa [show j + 1 + n = j + (n + 1) by omega] at h1
theorem Av6 {ops : Array Oper} {an : List (List Nat)} : ∀ (l done : List Oper) (i : Nat), done.length = i → Rp C ops an done l i = true →
  ∀ (k : Nat) (x : Oper) (j : Nat) (y : Oper), l[k]? = some x → j < i + k → (done ++ l)[j]? = some y → Ey C y x = true ∧ (j ∈ an.getD (i + k) [] ∨ (Ji C ops y x = true ∧ Ey C x y = true))
 | [], done, i, hi, h, k, x, j, y, hk => by simp at hk
 | z :: l, done, i, hi, h, k, x, j, y, hk => by
  intro hj hy
  simp only [Rp, Bool.and_eq_true] at h
  cases k with
  | zero =>
   simp at hk
   subst hk
   rw [List.getElem?_append_left (by omega)] at hy
   have := Av5 done 0 h.1 j y hy
   simpa using this
  | succ n =>
   have := Av6 l (done ++ [z]) (i + 1) (by simp [hi]) h.2 n x j y (by simpa using hk) (by omega) (by simpa using hy)
   rwa [show i + (n + 1) = i + 1 + n by omega]
theorem Bkc {ops : Array Oper} {i j : Nat} {x y : Oper} (hy : ops[j]? = some y) (hx : ops[i]? = some x) (h : Ji C ops y x = true) : Sw C ops j i := by
 intro s s1 s2 f1 f2 h1 h2
 simp only [stp, hy, hx] at h1 h2 ⊢
 exact pair_sw h (f1 y hy) (f2 x hx) h1 h2
def unl (n : Nat) (listed : Array Bool) : List Nat := (List.range n).filter fun j => !listed.getD j true
theorem unl_set {n i : Nat} {listed : Array Bool} (hi : i ∈ unl n listed) : ∃ pre post, unl n listed = pre ++ i :: post ∧ (∀ j ∈ pre, j < i) ∧ unl n (listed.setIfInBounds i true) = pre ++ post := by
 obtain ⟨pre, post, h⟩ := List.append_of_mem hi
 have hp : (unl n listed).Pairwise (· < ·) := List.pairwise_lt_range.filter _
 rw [h, List.pairwise_append] at hp
 obtain ⟨h1, h2, h3⟩ := hp
 rw [List.pairwise_cons] at h2
 have hpre : ∀ j ∈ pre, j < i := fun j hj => h3 j hj i (by simp)
 refine ⟨pre, post, h, hpre, ?_⟩
 have e : unl n (listed.setIfInBounds i true) = (unl n listed).filter (fun j => decide (j ≠ i)) := by
  unfold unl
  rw [List.filter_filter]
  apply List.filter_congr
  intro j hj
  by_cases hji : j = i
  ·subst hji
   rw [Array.getD_eq_getD_getElem?, Array.getElem?_setIfInBounds]
   simp
   split <;> rfl
  ·rw [getD_set_ne true (Ne.symm hji)]
   simp [hji]
 rw [e, h, List.filter_append, List.filter_cons_of_neg (by simp), List.filter_eq_self.2, List.filter_eq_self.2]
 ·intro j hj; have := h2.1 j hj; simp; omega
 ·intro j hj; have := hpre j hj; simp; omega
theorem Ky {n i : Nat} {listed : Array Bool} : i ∈ unl n listed ↔ i < n ∧ listed.getD i true = false := by
 simp [unl]
theorem At7 {listed : Array Bool} {i : Nat} (hi : i < listed.size) (b : Bool) : listed.getD i b = listed.getD i true := by
 simp [Array.getD_eq_getD_getElem?, Array.getElem?_eq_getElem hi]
theorem any_ok (hE : Eb C) {ops : Array Oper} (hc : commutes C ops = true) {sf : St} (Q : Exit → Act → World → Prop) :
  ∀ (fuel : Nat) (listed : Array Bool) (s : St) (G : Gm) (a : Act) (w : World), listed.size = ops.size → (unl ops.size listed).length ≤ fuel →
  (∀ (i : Nat) (o : Oper), ops[i]? = some o → listed.getD i false = true → Deps (fun j => listed.getD j false = true) o) →
  (∀ j ∈ unl ops.size listed, FrA C ops j s) → Holds F s G a.tmps.toList w → fld C ops (unl ops.size listed) s = some sf →
  (∀ G' a' w', Holds F sf G' a'.tmps.toList w' → Step N0 N0 s G w sf G' w' → a'.defers = a.defers → Q .normal a' w') →
  wpAny C.P .any ops Q fuel listed a w := by
 intro fuel
 simp only [commutes, Bool.and_eq_true] at hc
 have hend : ∀ (listed : Array Bool) (s : St) (G : Gm) (a : Act) (w : World), listed.size = ops.size →
   Holds F s G a.tmps.toList w → fld C ops (unl ops.size listed) s = some sf →
   (∀ G' a' w', Holds F sf G' a'.tmps.toList w' → Step N0 N0 s G w sf G' w' → a'.defers = a.defers → Q .normal a' w') →
   Region.ready .any ops listed = [] → Q .normal a w := by
  intro listed s G a w hs hH hf hQ hr
  cases hu : unl ops.size listed with
  | nil =>
   rw [hu] at hf
   cases hf
   exact hQ G a w hH (Step.refl _ _ _ _ _) rfl
  | cons i r =>
   exfalso
   have hi : i ∈ unl ops.size listed := by rw [hu]; simp
   obtain ⟨hlt, hun⟩ := Ky.1 hi
   have : i ∈ Region.ready .any ops listed := by
    refine mem_ready.2 ⟨hun, ops[i], Array.getElem?_eq_getElem hlt, fun e he hb => ?_⟩
    have h1 := Aeu ops.toList 0 hc.1 i ops[i] (by simp [hlt]) e (by simpa using he) hb
    cases hL : listed.getD e.on false with
    | true => rfl
    | false =>
     exfalso
     have h2 : e.on ∈ unl ops.size listed := Ky.2 ⟨by omega, by rw [← At7 (by omega) false]; exact hL⟩
     have hp : (unl ops.size listed).Pairwise (· < ·) := List.pairwise_lt_range.filter _
     rw [hu, List.pairwise_cons] at hp
     rw [hu] at h2
     rcases List.mem_cons.1 h2 with h3 | h3
     ·omega
     ·have := hp.1 _ h3; omega
   rw [hr] at this
   cases this
 induction fuel with
 | zero =>
  intro listed s G a w hs hle hcl hfr hH hf hQ
  have hr : Region.ready .any ops listed = [] := by
   apply List.eq_nil_iff_forall_not_mem.2
   intro i hi
   obtain ⟨h1, o, ho, _⟩ := mem_ready.1 hi
   have : i ∈ unl ops.size listed := Ky.2 ⟨(Array.getElem?_eq_some_iff.1 ho).1, h1⟩
   rw [List.eq_nil_of_length_eq_zero (by omega : (unl ops.size listed).length = 0)] at this
   cases this
  exact ⟨hr, hend listed s G a w hs hH hf hQ hr⟩
 | succ fuel ih =>
  intro listed s G a w hs hle hcl hfr hH hf hQ
  refine ⟨hend listed s G a w hs hH hf hQ, fun i hi => ?_⟩
  obtain ⟨hun, o, ho, hdeps⟩ := mem_ready.1 hi
  have hlt := (Array.getElem?_eq_some_iff.1 ho).1
  have hmem : i ∈ unl ops.size listed := Ky.2 ⟨hlt, hun⟩
  obtain ⟨pre, post, e1, hpre, e2⟩ := unl_set hmem
  have hD : Deps (fun j => listed.getD j false = true) o := fun e he hb => hdeps e (by simpa using he) hb
  have hspec : ∀ (j k : Nat), j < k → ∀ (y x : Oper), ops[j]? = some y → ops[k]? = some x → Ey C y x = true ∧ (j ∈ (ancs ops.toList []).getD k [] ∨ (Ji C ops y x = true ∧ Ey C x y = true)) := by
   intro j k hjk y x hy hx
   have h1 := Av6 ops.toList [] 0 rfl hc.2 k x j y (by simpa using hx) (by omega) (by simpa using hy)
   rwa [Nat.zero_add] at h1
  have hnanc : ∀ j ∈ pre, j ∉ (ancs ops.toList []).getD i [] := by
   intro j hj h1
   have hj' : j ∈ unl ops.size listed := by rw [e1]; simp [hj]
   obtain ⟨hjl, hju⟩ := Ky.1 hj'
   cases hx : (ancs ops.toList [])[i]? with
   | none => rw [List.getD_eq_getElem?_getD, hx] at h1; cases h1
   | some x =>
    rw [List.getD_eq_getElem?_getD, hx] at h1
    have h2 := Adq (L := fun j => listed.getD j false = true) ops hcl ops.toList [] (fun j o hj => by simpa using hj) (fun i o x _ h => by simp at h) (Nat.zero_le _) i o x ho hx hD j h1
    rw [At7 (by omega)] at h2
    rw [h2] at hju
    cases hju
  have hsw : ∀ j ∈ pre, Sw C ops j i := by
   intro j hj
   have hj' : j ∈ unl ops.size listed := by rw [e1]; simp [hj]
   obtain ⟨hjl, hju⟩ := Ky.1 hj'
   have hoj : ops[j]? = some ops[j] := Array.getElem?_eq_getElem hjl
   rcases (hspec j i (hpre j hj) ops[j] o hoj ho).2 with h1 | h1
   ·exact absurd h1 (hnanc j hj)
   ·exact Bkc hoj ho h1.1
  have hpw : (unl ops.size listed).Pairwise (· < ·) := List.pairwise_lt_range.filter _
  have hap : ∀ j k, j < k → Ap C ops j k := fun j k hjk y x hy hx => (hspec j k hjk y x hy hx).1
  have hap2 : ∀ k ∈ pre ++ post, Ap C ops i k := by
   intro k hk
   rcases List.mem_append.1 hk with hk | hk
   ·intro y x hy hx
    rcases (hspec k i (hpre k hk) x y hx hy).2 with h1 | h1
    ·exact absurd h1 (hnanc k hk)
    ·exact h1.2
   ·rw [e1, List.pairwise_append, List.pairwise_cons] at hpw
    exact hap i k (hpw.2.1.1 k hk)
  rw [e1, show pre ++ i :: post = (pre ++ [i]) ++ post by simp, Vk] at hf
  obtain ⟨s1, h1, h2⟩ := Option.bind_eq_some_iff.1 hf
  have h3 := Afb ops pre s s1 hsw (fun j hj => hfr j (by rw [e1]; simp [hj])) (hfr i (by rw [e1]; simp)) (by
   rw [e1, show pre ++ i :: post = (pre ++ [i]) ++ post by simp, List.pairwise_append] at hpw
   exact hpw.1.imp fun {j k} h => hap j k h) h1
  simp only [fld] at h3
  obtain ⟨s3, h4, h5⟩ := Option.bind_eq_some_iff.1 h3
  have h6 : fld C ops (unl ops.size (listed.setIfInBounds i true)) s3 = some sf := by
   rw [e2, Vk, h5]; exact h2
  have hfr' : ∀ j ∈ unl ops.size (listed.setIfInBounds i true), FrA C ops j s3 := by
   intro j hj
   rw [e2] at hj
   exact Acg (hap2 j hj) (hfr j (by rw [e1]; rcases List.mem_append.1 hj with h | h <;> simp [h])) h4
  simp only [stp, ho] at h4
  have hlen : (unl ops.size (listed.setIfInBounds i true)).length ≤ fuel := by
   rw [e1] at hle
   rw [e2]
   simp at hle ⊢
   omega
  have hcl' : ∀ (k : Nat) (ok : Oper), ops[k]? = some ok → (listed.setIfInBounds i true).getD k false = true → Deps (fun j => (listed.setIfInBounds i true).getD j false = true) ok := by
   intro k ok hk hL e he hb
   by_cases hik : i = k
   ·subst hik
    rw [ho] at hk
    cases hk
    exact getD_set_true (hD e he hb)
   ·rw [getD_set_ne false hik] at hL
    exact getD_set_true (hcl k ok hk hL e he hb)
  have hstep := Bgw (fok_D hE) hH h4 (wpAny C.P .any ops Q fuel (listed.setIfInBounds i true)) Q fun G1 a1 w1 k1 k2 k3 =>
   ih (listed.setIfInBounds i true) s3 G1 a1 w1 (by simpa using hs) hlen hcl' hfr' k1 h6 fun G2 a2 w2 m1 m2 m3 => hQ G2 a2 w2 m1 (k2.trans m2) (m3.trans k3)
  unfold wpOp
  simp only [ho]
  split
  ·rename_i hw; rw [if_pos hw] at hstep; exact .inl hstep
  ·rename_i hw; rw [if_neg hw] at hstep; exact hstep
theorem Bfm {bs os : List Nat} {n : Nat} (h : n ∈ bs) (l : L) : (F6 bs os l).noB n = true := by
 unfold F6
 split
 ·rename_i hc
  rw [Bool.and_eq_true] at hc
  exact List.all_eq_true.1 hc.1 n h
 ·rfl
theorem Bfn {bs os : List Nat} {n : Nat} (h : n ∈ os) (l : L) : (F6 bs os l).noO n = true := by
 unfold F6
 split
 ·rename_i hc
  rw [Bool.and_eq_true] at hc
  exact List.all_eq_true.1 hc.2 n h
 ·rfl
theorem Aum {p : L → Bool} {bs os : List Nat} (h : ∀ l, p (F6 bs os l) = true) (s : St) : (Da s bs os).all p = true := by
 simp only [St.all, Bool.and_eq_true, List.all_eq_true, Da, List.mem_map]
 constructor
 ·rintro v ⟨v0, _, rfl⟩
  exact So h v0
 ·rintro b ⟨b0, _, rfl⟩
  split
  ·rename_i ls hls
   split at hls
   ·cases hls
   ·obtain ⟨q, hq, rfl⟩ := Option.map_eq_some_iff.1 hls
    simp only [List.all_map, List.all_eq_true, Function.comp]
    exact fun l _ => h l
  ·rfl
theorem kill_ok (h : Holds F s G a.tmps.toList w) (bs os : List Nat) : Holds F (Da s bs os) G a.tmps.toList w ∧ Step N0 N0 s G w (Da s bs os) G w := by
 have h1 := Aun (bs := bs) (os := os) (si := ⟨[], [], []⟩) (Gi := G) (w' := w) h (Keeps.refl _ _) (by
  rintro j (⟨b, ls, hb, _⟩ | ⟨l, x, hx, _⟩)
  ·simp [Ah] at hb
  ·simp [Ag] at hx)
 refine ⟨h1.1, ⟨Keeps.refl _ _, fun k hk => ?_, fun _ _ => ⟨rfl, rfl⟩, fun l _ x hx => ?_⟩⟩
 ·rcases hk with ⟨b, ls, hb', rfl⟩ | ⟨l, x, hx, e⟩
  ·obtain ⟨q, h3, _⟩ := I9 hb'
   exact .inl (.inl ⟨b, q, h3, rfl⟩)
  ·exact .inl (.inr ⟨l, x, (Gv hx).1, e⟩)
 ·exact ⟨⟨x, (Gv hx).1⟩, rfl⟩
theorem A2b {ops : Array Oper} (h : Holds F s G a.tmps.toList w) : (∀ j, FrA C ops j (clean C ops s)) ∧ Holds F (clean C ops s) G a.tmps.toList w ∧ Step N0 N0 s G w (clean C ops s) G w := by
 unfold clean
 have hmem : ∀ j o, ops[j]? = some o → o ∈ ops.toList := fun j o ho => List.mem_of_getElem? (l := ops.toList) (i := j) (by simpa using ho)
 split
 ·rename_i h1 h2
  refine ⟨fun j o ho => ⟨fun n hn => ?_, fun n hn => ?_⟩, h, Step.refl _ _ _ _ _⟩
  ·have : n ∈ ops.toList.flatMap (mkB C) := List.mem_flatMap.2 ⟨o, hmem j o ho, hn⟩
   rw [h1] at this; cases this
  ·have : n ∈ ops.toList.flatMap (mkO C) := List.mem_flatMap.2 ⟨o, hmem j o ho, hn⟩
   rw [h2] at this; cases this
 ·refine ⟨fun j o ho => ⟨fun n hn => Aum (Bfm (List.mem_flatMap.2 ⟨o, hmem j o ho, hn⟩)) s, fun n hn => Aum (Bfn (List.mem_flatMap.2 ⟨o, hmem j o ho, hn⟩)) s⟩, ?_⟩
  exact kill_ok h _ _
theorem draw_ok (hm : C.P.follows .mixedOrders = true) (hE : Eb C) : R8 C := by
 intro ops hc F s s' G a w Q hH hf hQ id
 refine wp_region_any hm ?_
 have hg : Grew w { w with drawn := w.drawn + 1 } := ⟨rfl, rfl, rfl, Nat.le_refl _, fun _ _ _ => rfl⟩
 obtain ⟨hfr, hH', hst⟩ := A2b (C := C) (ops := ops) hH
 have hu : unl ops.size (Array.replicate ops.size false) = List.range ops.size := by
  unfold unl
  apply List.filter_eq_self.2
  intro j hj
  have := List.mem_range.1 hj
  simp [Array.getD_eq_getD_getElem?, this]
 refine any_ok hE hc (sf := s') Q ops.size _ (clean C ops s) G a _ (by simp) (by rw [hu]; simp) (fun i o ho hL => ?_) (fun j _ => hfr j) (hH'.grew hg) ?_ fun G' a' w' k1 k2 k3 => hQ G' a' w' k1 (hst.trans ((Step.grew hg).trans k2)) k3
 ·exfalso
  rw [Array.getD_eq_getD_getElem?, Array.getElem?_replicate] at hL
  split at hL <;> simp at hL
 ·rw [hu, List.range_eq_range']
  rw [Ahl ops ops.toList 0 (clean C ops s) fun j o hj => by simpa using hj] at hf
  simpa using hf
end
section
variable {R : Type}
abbrev Jt (R : Type) := List (Nat × (St → Option R))
def Kv : Jt R → Nat → Option (St → Option R)
 | [], _ => none
 | x :: r, i => if x.1 = i then some x.2 else Kv r i
def Gt (J : Jt R) (c : Code) : Option (St → Option R) := (Eg c).bind (Kv J)
def seqJ (C : Cfg) (J : Jt R) (b : Code) (f : St → (XE → St → Option R) → Option R) (K : XE → St → Option R) : XE → St → Option R
 | .normal, s => norm C b s fun s => match Gt J b with | some g => g s | none => f s K
 | e, s => K e s
def evJ (C : Cfg) (J L : Jt R) : Code → St → (XE → St → Option R) → Option R
 | .skip, s, K => K .normal s
 | .region _ ops draw, s, K => if draw then (if commutes C ops then opsK (opD C) ops ops.toList (clean C ops s) (K .normal) else none) else opsP C ops ops.toList s K
 | .seq a b, s, K => evJ C J L a s (seqJ C J b (evJ C J L b) K)
 | .cond c x y, s, K => match Dj (s.get c) with
  | some b => bif b then evJ C J L x (refine s c true) K else evJ C J L y (refine s c false) K
  | none => none
 | .block id b, s, K => evJ C J L b s (blkK id K)
 | .loop b, s, K => norm C b s fun s => match Gt L b with | some g => g s | none => none
 | .exit id, s, K => K (.exit id) s
 | .ret, s, K => K .ret s
 | .label _, s, K => K .normal s
 | _, _, _ => none
def ctxJ (C : Cfg) (J L : Jt R) : Code → List Step1 → (XE → St → Option R) → (XE → St → Option R)
 | _, [], K => K
 | .seq a b, .l :: p, K => ctxJ C J L a p (seqJ C J b (evJ C J L b) K)
 | .seq _ b, .r :: p, K => ctxJ C J L b p K
 | .block id b, .b :: p, K => ctxJ C J L b p (blkK id K)
 | .loop b, .b :: p, K => ctxJ C J L b p (match Gt L b with | some g => Kx C b g K | none => fun _ _ => none)
 | .scope b, .b :: p, K => ctxJ C J L b p K
 | .cond _ x _, .t :: p, K => ctxJ C J L x p K
 | .cond _ _ y, .e :: p, K => ctxJ C J L y p K
 | _, _, K => K
def jt (C : Cfg) (k : Nat) : Code → List Step1 → List Nat → (XE → St → Option R) → List (Code × (St → Option R))
 | .seq a b, .l :: p, ks, K => (b, fun s => ev C k b s K) :: (jt C k a p ks (seqK C b (ev C k b) K) ++ jt C k b [] [] K)
 | .seq a b, .r :: p, ks, K => (b, fun s => ev C k b s K) :: (jt C k a [] [] (seqK C b (ev C k b) K) ++ jt C k b p ks K)
 | .seq a b, _, _, K => (b, fun s => ev C k b s K) :: (jt C k a [] [] (seqK C b (ev C k b) K) ++ jt C k b [] [] K)
 | .cond _ x y, .t :: p, ks, K => jt C k x p ks K ++ jt C k y [] [] K
 | .cond _ x y, .e :: p, ks, K => jt C k x [] [] K ++ jt C k y p ks K
 | .cond _ x y, _, _, K => jt C k x [] [] K ++ jt C k y [] [] K
 | .block id b, .b :: p, ks, K => jt C k b p ks (blkK id K)
 | .block id b, _, _, K => jt C k b [] [] (blkK id K)
 | .loop b, .b :: p, j :: ks, K => jt C k b p ks (Kx C b (Ei (Ez C b (ev C k b) K) j) K)
 | _, _, _, _ => []
def lt (C : Cfg) (k : Nat) : Code → List Step1 → List Nat → (XE → St → Option R) → List (Code × (St → Option R))
 | .seq a b, .l :: p, ks, K => lt C k a p ks (seqK C b (ev C k b) K) ++ lt C k b [] [] K
 | .seq a b, .r :: p, ks, K => lt C k a [] [] (seqK C b (ev C k b) K) ++ lt C k b p ks K
 | .seq a b, _, _, K => lt C k a [] [] (seqK C b (ev C k b) K) ++ lt C k b [] [] K
 | .cond _ x y, .t :: p, ks, K => lt C k x p ks K ++ lt C k y [] [] K
 | .cond _ x y, .e :: p, ks, K => lt C k x [] [] K ++ lt C k y p ks K
 | .cond _ x y, _, _, K => lt C k x [] [] K ++ lt C k y [] [] K
 | .block id b, .b :: p, ks, K => lt C k b p ks (blkK id K)
 | .block id b, _, _, K => lt C k b [] [] (blkK id K)
 | .loop b, .b :: p, j :: ks, K => (b, Ei (Ez C b (ev C k b) K) j) :: lt C k b p ks (Kx C b (Ei (Ez C b (ev C k b) K) j) K)
 | .loop b, _, _, K => [(b, Ei (Ez C b (ev C k b) K) k)]
 | _, _, _, _ => []
def OkJ (J : Jt R) (l : List (Code × (St → Option R))) : Prop := ∀ x ∈ l, ∀ g, Gt J x.1 = some g → g = x.2
def OkL (J : Jt R) (l : List (Code × (St → Option R))) : Prop := ∀ x ∈ l, Gt J x.1 = some x.2
theorem Aw6 {C : Cfg} {J : Jt R} {b : Code} {f g : St → (XE → St → Option R) → Option R} {K : XE → St → Option R} (h1 : ∀ s, f s K = g s K) (h2 : ∀ h, Gt J b = some h → h = fun s => g s K) : seqJ C J b f K = seqK C b g K := by
 funext e s
 cases e with
 | normal =>
  simp only [seqJ, seqK]
  congr 1
  funext s
  cases hb : Gt J b with
  | none => exact h1 s
  | some h => rw [h2 h hb]
 | _ => rfl
theorem Iy {C : Cfg} {J L : Jt R} {k : Nat} : ∀ (c : Code) (s : St) (K : XE → St → Option R), OkJ J (jt C k c [] [] K) → OkL L (lt C k c [] [] K) → evJ C J L c s K = ev C k c s K
 | .skip, s, K, _, _ => rfl
 | .region _ _ _, s, K, _, _ => rfl
 | .seq a b, s, K, hJ, hL => by
  simp only [evJ, ev]
  simp only [jt, lt] at hJ hL
  have e : seqJ C J b (evJ C J L b) K = seqK C b (ev C k b) K := Aw6
   (fun s => Iy b s K (fun x hx => hJ x (by simp [hx])) (fun x hx => hL x (by simp [hx])))
   (fun h hh => hJ (b, fun s => ev C k b s K) (by simp) h hh)
  rw [e]
  exact Iy a s _ (fun x hx => hJ x (by simp [hx])) (fun x hx => hL x (by simp [hx]))
 | .cond c x y, s, K, hJ, hL => by
  simp only [evJ, ev]
  simp only [jt, lt] at hJ hL
  cases Dj (s.get c) with
  | none => rfl
  | some b =>
   simp only []
   rw [Iy (k := k) x _ K (fun z hz => hJ z (by simp [hz])) (fun z hz => hL z (by simp [hz])), Iy (k := k) y _ K (fun z hz => hJ z (by simp [hz])) (fun z hz => hL z (by simp [hz]))]
 | .block id b, s, K, hJ, hL => by
  simp only [evJ, ev]
  exact Iy b s _ (by simpa only [jt] using hJ) (by simpa only [lt] using hL)
 | .loop b, s, K, hJ, hL => by
  simp only [evJ, ev]
  have h := hL (b, Ei (Ez C b (ev C k b) K) k) (by simp [lt])
  rw [h]
 | .scope b, s, K, _, _ => rfl
 | .exit id, s, K, _, _ => rfl
 | .ret, s, K, _, _ => rfl
 | .goto l, s, K, _, _ => rfl
 | .label l, s, K, _, _ => rfl
 | .refuse y, s, K, _, _ => rfl
 | .rangeFunc f p x y, s, K, _, _ => rfl
def Gk : Code → List Step1 → List Nat → Bool
 | _, [], _ => true
 | .seq a _, .l :: p, ks => Gk a p ks
 | .seq _ b, .r :: p, ks => Gk b p ks
 | .block _ b, .b :: p, ks => Gk b p ks
 | .loop b, .b :: p, _ :: ks => Gk b p ks
 | .cond _ x _, .t :: p, ks => Gk x p ks
 | .cond _ _ y, .e :: p, ks => Gk y p ks
 | _, _, _ => false
theorem It {C : Cfg} {J L : Jt R} {k : Nat} : ∀ (c : Code) (p : List Step1) (ks : List Nat) (K : XE → St → Option R), Gk c p ks = true → OkJ J (jt C k c p ks K) → OkL L (lt C k c p ks K) →
  ctxJ C J L c p K = B5 C k c p ks K ∧ OkJ J (jt C k (Cc c p) [] [] (B5 C k c p ks K)) ∧ OkL L (lt C k (Cc c p) [] [] (B5 C k c p ks K))
 | c, [], ks, K, hw, hJ, hL => by
  refine ⟨by unfold ctxJ B5; rfl, ?_, ?_⟩
  ·rw [show Cc c [] = c by unfold Cc; rfl, show B5 C k c [] ks K = K by unfold B5; rfl]
   cases c <;> simpa only [jt] using hJ
  ·rw [show Cc c [] = c by unfold Cc; rfl, show B5 C k c [] ks K = K by unfold B5; rfl]
   cases c <;> simpa only [lt] using hL
 | .seq a b, .l :: p, ks, K, hw, hJ, hL => by
  simp only [ctxJ, B5, Cc]
  simp only [jt, lt] at hJ hL
  have e : seqJ C J b (evJ C J L b) K = seqK C b (ev C k b) K := Aw6
   (fun s => Iy b s K (fun x hx => hJ x (by simp [hx])) (fun x hx => hL x (by simp [hx])))
   (fun h hh => hJ (b, fun s => ev C k b s K) (by simp) h hh)
  rw [e]
  exact It a p ks _ hw (fun x hx => hJ x (by simp [hx])) (fun x hx => hL x (by simp [hx]))
 | .seq a b, .r :: p, ks, K, hw, hJ, hL => by
  simp only [ctxJ, B5, Cc]
  simp only [jt, lt] at hJ hL
  exact It b p ks _ hw (fun x hx => hJ x (by simp [hx])) (fun x hx => hL x (by simp [hx]))
 | .block id b, .b :: p, ks, K, hw, hJ, hL => by
  simp only [ctxJ, B5, Cc]
  simp only [jt, lt] at hJ hL
  exact It b p ks _ hw hJ hL
 | .loop b, .b :: p, j :: ks, K, hw, hJ, hL => by
  simp only [ctxJ, B5, Cc]
  simp only [jt, lt] at hJ hL
  have h := hL (b, Ei (Ez C b (ev C k b) K) j) (by simp)
  rw [h]
  exact It b p ks _ hw hJ (fun x hx => hL x (by simp [hx]))
 | .cond c x y, .t :: p, ks, K, hw, hJ, hL => by
  simp only [ctxJ, B5, Cc]
  simp only [jt, lt] at hJ hL
  exact It x p ks _ hw (fun x hx => hJ x (by simp [hx])) (fun x hx => hL x (by simp [hx]))
 | .cond c x y, .e :: p, ks, K, hw, hJ, hL => by
  simp only [ctxJ, B5, Cc]
  simp only [jt, lt] at hJ hL
  exact It y p ks _ hw (fun x hx => hJ x (by simp [hx])) (fun x hx => hL x (by simp [hx]))
def Qe (C : Cfg) (J L : Jt R) (c : Code) (p : List Step1) (K : XE → St → Option R) (s : St) : Option R := evJ C J L (Cc c p) s (ctxJ C J L c p K)
def keep (ids : List Nat) : List (Code × (St → Option R)) → Jt R
 | [] => []
 | x :: r => match Eg x.1 with
  | some i => if ids.contains i then (i, x.2) :: keep ids r else keep ids r
  | none => keep ids r
def Fp : Jt R → Bool
 | [] => true
 | x :: r => !(r.map Prod.fst).contains x.1 && Fp r
theorem Abc : ∀ {l : Jt R} {x : Nat × (St → Option R)}, Fp l = true → x ∈ l → Kv l x.1 = some x.2
 | y :: l, x, hk, hx => by
  simp only [Fp, Bool.and_eq_true, Bool.not_eq_true', List.contains_eq_mem, decide_eq_false_iff_not] at hk
  simp only [Kv]
  rcases List.mem_cons.1 hx with rfl | hx
  ·rw [if_pos rfl]
  ·rw [if_neg]
   ·exact Abc hk.2 hx
   ·intro e
    exact hk.1 (List.mem_map.2 ⟨x, hx, e.symm⟩)
theorem Au3 : ∀ {l : Jt R} {i : Nat} {g : St → Option R}, Kv l i = some g → (i, g) ∈ l
 | x :: l, i, g, h => by
  simp only [Kv] at h
  split at h
  ·rename_i e; cases h; subst e; exact List.mem_cons_self
  ·exact List.mem_cons_of_mem _ (Au3 h)
theorem Aa6 {ids : List Nat} : ∀ {l : List (Code × (St → Option R))} {x : Code × (St → Option R)} {i : Nat}, x ∈ l → Eg x.1 = some i → i ∈ ids → (i, x.2) ∈ keep ids l
 | y :: l, x, i, hx, hi, hm => by
  simp only [keep]
  rcases List.mem_cons.1 hx with rfl | hx
  ·rw [hi]
   simp [hm]
  ·have := Aa6 hx hi hm
   split
   ·split
    ·exact List.mem_cons_of_mem _ this
    ·exact this
   ·exact this
theorem Q8 {ids : List Nat} : ∀ {l : List (Code × (St → Option R))} {x : Nat × (St → Option R)}, x ∈ keep ids l → x.1 ∈ ids
 | y :: l, x, h => by
  simp only [keep] at h
  split at h
  ·split at h
   ·rename_i hm
    rcases List.mem_cons.1 h with rfl | h
    ·simpa using hm
    ·exact Q8 h
   ·exact Q8 h
  ·exact Q8 h
theorem Bgn {ids : List Nat} {l : List (Code × (St → Option R))} (hk : Fp (keep ids l) = true) : OkJ (keep ids l) l := by
 intro x hx g hg
 unfold Gt at hg
 obtain ⟨i, hi, h2⟩ := Option.bind_eq_some_iff.1 hg
 have hm := Q8 (Au3 h2)
 have := Abc hk (Aa6 hx hi hm)
 rw [h2] at this
 cases this
 rfl
def Np (ids : List Nat) (l : List (Code × (St → Option R))) : Bool := l.all fun x => match Eg x.1 with | some i => ids.contains i | none => false
theorem Bgo {ids : List Nat} {l : List (Code × (St → Option R))} (hk : Fp (keep ids l) = true) (ha : Np ids l = true) : OkL (keep ids l) l := by
 intro x hx
 have h := List.all_eq_true.1 ha x hx
 cases hi : Eg x.1 with
 | none => rw [hi] at h; cases h
 | some i =>
  rw [hi] at h
  unfold Gt
  rw [hi]
  exact Abc hk (Aa6 hx hi (by simpa using h))
theorem A7j {C : Cfg} {k : Nat} {c : Code} {p : List Step1} {ks : List Nat} {K : XE → St → Option R} (s : St) (js ls : List Nat) {J L : Jt R}
  (hw : Gk c p ks = true) (hJ : keep js (jt C k c p ks K) = J) (hL : keep ls (lt C k c p ks K) = L) (h1 : Fp J = true) (h2 : Fp L = true) (h3 : Np ls (lt C k c p ks K) = true) :
  evAt C k c p ks K s = Qe C J L c p K s := by
 subst hJ
 subst hL
 obtain ⟨e, a, b⟩ := It c p ks K hw (Bgn h1) (Bgo h2 h3)
 unfold evAt Qe
 rw [e, Iy _ _ _ a b]
end
def Kw : List (Nat × List Sig) → Nat → List Sig
 | [], _ => []
 | x :: r, i => if x.1 = i then x.2 else Kw r i
def AllS (P : Program) (g : Nat) : List Sig → Prop
 | [] => True
 | s :: r => Aa P g s ∧ AllS P g r
def Nm (P : Program) : List (Nat × List Sig) → Prop
 | [] => True
 | x :: r => AllS P x.1 x.2 ∧ Nm P r
theorem Add {P : Program} {g : Nat} : ∀ {l : List Sig}, AllS P g l → ∀ s ∈ l, Aa P g s
 | s :: r, h, x, hx => by
  rcases List.mem_cons.1 hx with rfl | hx
  ·exact h.1
  ·exact Add h.2 x hx
theorem Ade {P : Program} : ∀ {l : List (Nat × List Sig)}, Nm P l → ∀ g, ∀ s ∈ Kw l g, Aa P g s
 | [], h, g, s, hs => by cases hs
 | (n, l) :: r, h, g, s, hs => by
  simp only [Kw] at hs
  split at hs
  ·rename_i e; subst e; exact Add h.1 s hs
  ·exact Ade h.2 g s hs
theorem fn_ok {C : Cfg} {l : List (Nat × List Sig)} (he : C.env = Kw l) (hl : Nm C.P l) (hm : C.P.follows .mixedOrders = true) (k : Nat) {g : Nat} {fn : Func} (hf : C.P.funcs[g]? = some fn) (hname : (fn.name == "runtime.NumGoroutine") = false)
  (hb : fn.body = some (Js fn)) (kin kout : Sk) (hnB : C.npB = kin.boxes.length) (hnO : C.npO = kin.owns.length) (hlB : C.npB ≤ N0) (hlO : C.npO ≤ N0) : Aa C.P g ⟨kin, kout, Dr kin.tys kout.tys (Ab C k fn kin kout)⟩ := by
 have hE : Eb C := by
  intro g s hs
  rw [he] at hs
  exact Ade hl g s hs
 exact A8s hE (draw_ok hm hE) k hf hname hb kin kout hnB hnO hlB hlO
def rdA {α : Type} (d : α) (xs : List α) (i : Nat) : α := xs.getD i d
def appB (b m n : Nat) : Bool := decide ((m + n) * b ≤ 140737488355328) && decide (m + n ≤ maxLen)
section
variable {P : Program} {F : Nat → Prop} {s s' : St} {G : Gm} {w w' : World} {vals : List Value}
theorem Be9 {w w' : World} (h : Below w.heap.size w w') : Grew w w' :=
 ⟨h.os, h.tape, h.output, h.size, fun k hk _ => h.block k hk⟩
theorem M6 {s : St} {G : Gm} {k : Nat} (hb : s.boxes = []) (ho : s.owns = []) : ¬ Live s G k := by
 rintro (⟨b, ls, h, _⟩ | ⟨l, o, h, _⟩)
 ·simp [Ah, hb] at h
 ·simp [Ag, ho] at h
theorem Auf {s : St} (hb : s.boxes = []) (ho : s.owns = []) (hF : ∀ k, F k → k < w.heap.size) (hg : ∀ x ∈ gTab, ∃ et fr, w.heap[x.1]? = some (.cells x.2 et fr)) (hs : All2 (HA (HR F s G w)) s.slots vals) : Holds F s G vals w where
 slots := hs
 box := fun b ls h => by simp [Ah, hb] at h
 own := fun l o h => by simp [Ag, ho] at h
 bb := fun b b' ls ls' h => by simp [Ah, hb] at h
 bo := fun b ls l o h => by simp [Ah, hb] at h
 oo := fun l l' o o' k h => by simp [Ag, ho] at h
 nF := fun k h => absurd h (M6 hb ho)
 Flt := hF
 ty := fun b ls h => by simp [Ah, hb] at h
 gl := fun x hx => ⟨M6 hb ho, hg x hx⟩
theorem L7 {k : Sk} {ps : List PL} (h : k.boxes = []) : (enc k 0 ps).boxes = [] := by simp [enc, h, J5]
theorem L8 {k : Sk} {ps : List PL} (h : k.owns = []) : (enc k 0 ps).owns = [] := by simp [enc, h, Fw]
theorem Auc {k : IntKind} {n : Int} {v : Value} (h : HA (HR F s G w) (lf (.pv ⟨.int k, n⟩)) v) : v = .int k n ∧ (Lit.int k n).wf = true := Ds (w := w) (G := G) (ok := okS F s G w) (os := s.owns) h
theorem ha_bool {b : Bool} {v : Value} (h : HA (HR F s G w) (lf (.pv ⟨.bool, b⟩)) v) : v = .bool b := Ib (w := w) (G := G) (ok := okS F s G w) (os := s.owns) h
theorem ha_str {q : List Int} {v : Value} (h : HA (HR F s G w) (lf (.pv ⟨.str, q⟩)) v) : ∃ y : ByteArray, v = .string y ∧ bs y = q ∧ y.size ≤ maxLen := Ft (w := w) (G := G) (ok := okS F s G w) (os := s.owns) h
theorem Bfd {k : IntKind} {n : Int} (h : (Lit.int k n).wf = true) : HA (HR F s G w) (lf (.pv ⟨.int k, n⟩)) (.int k n) := by
 show [Value.int k n] = [Value.int k n] ∧ (Lit.int k n).wf = true
 exact ⟨rfl, h⟩
theorem Bff : HA (HR F s G w) (lf (.err true)) .nilIface := rfl
theorem Bjv {kin kout : Sk} {g : Nat} (h1 : kin.boxes = []) (h2 : kin.owns = []) (h3 : kout.boxes = []) (h4 : kout.owns = []) (f : HLs kin.tys → Option (HLs kout.tys))
  (hfn : ∃ fn, P.funcs[g]? = some fn ∧ (fn.name == "runtime.NumGoroutine") = false ∧ fn.body.isSome = true)
  (h : ∀ x y, f x = some y → ∀ (F : Nat → Prop) (G : Gm) (vals : List Value) (w : World), Holds F (enc kin 0 (toPL kin.tys x)) G vals w →
   Calls P g vals.toArray w fun e w' => ∃ rv, e = .returned (retV rv) ∧ Grew w w' ∧ All2 (HA (HR F (enc kout 0 (toPL kout.tys y)) G w')) (C7 kout.slots (toPL kout.tys y)) rv) :
  Aa P g ⟨kin, kout, Dr kin.tys kout.tys f⟩ := by
 refine ⟨hfn, fun ps qs hrun F G vals w hH => ?_⟩
 have z1 : szS kin = 0 := by simp [szS, h1, h2]
 have z2 : szS kout = 0 := by simp [szS, h3, h4]
 simp only [Dr] at hrun
 split at hrun
 ·rename_i x hx
  obtain ⟨y, hy, hq⟩ := Option.bind_eq_some_iff.1 hrun
  cases hq
  have hps := K1 hx
  subst hps
  simp only [z1, z2] at hH ⊢
  refine (h x y hy F G vals w hH).mono fun e w' he => ?_
  obtain ⟨rv, e1, e2, e3⟩ := he
  refine ⟨G, rv, e1, Auf (L7 h3) (L8 h4) (fun k hk => Nat.lt_of_lt_of_le (hH.Flt k hk) e2.size) (fun x hx => ((hH.grew e2).gl x hx).2) e3, ⟨e2.os, e2.tape, e2.output, e2.size, fun k hk _ => e2.block hk⟩, fun k hk => absurd hk (M6 (L7 h3) (L8 h4)), fun b hb => ?_, fun l hl => ?_⟩
  ·exact ⟨rfl, rfl⟩
  ·exact absurd hl (by rw [h2]; exact Nat.not_lt_zero _)
 ·cases hrun
end
section
variable {P : Program} {F : Nat → Prop} {s s' : St} {G : Gm} {W w w' : World} {vals : List Value}
theorem cell_at {a : Addr} {v : Value} (h : W.cell? a = some v) : a.spot = none ∧ a.block < W.heap.size := by
 unfold World.cell? at h
 split at h
 ·rename_i hb
  refine ⟨?_, (Array.getElem?_eq_some_iff.1 hb).1⟩
  split at h
  ·cases h
  ·rename_i hz; simpa using hz
 ·cases h
def Li : Sk := ⟨[.lf (.pv .bool)], [], []⟩
theorem Bi8 {g : Nat} {kin : Sk} {f : HLs kin.tys → Option Bool} (h : Aa P g ⟨kin, Li, Dr kin.tys Li.tys f⟩) (h1 : kin.boxes = []) (h2 : kin.owns = []) {x : HLs kin.tys} (hx : f x = some true) (hg : ∀ x ∈ gTab, ∃ et fr, W.heap[x.1]? = some (.cells x.2 et fr))
  (hv : ∀ (G : Gm) (s : St), s.boxes = [] → s.owns = [] → All2 (HA (HR (fun _ => False) s G W)) (C7 kin.slots (toPL kin.tys x)) vals) :
  Calls P g vals.toArray W fun e W' => e = .returned (.bool true) ∧ Below W.heap.size W W' := by
 have z1 : szS kin = 0 := by simp [szS, h1, h2]
 have hrun : (Dr kin.tys Li.tys f).run (List PL) (toPL kin.tys x) some = some [⟨.bool, true⟩] := by
  simp only [Dr]
  rw [Avq]
  simp only [hx]
  rfl
 have hH : Holds (fun _ => False) (enc kin 0 (toPL kin.tys x)) ⟨fun _ => 0, fun _ => .slice none 0 0, fun _ => 0⟩ vals W :=
  Auf (L7 h1) (L8 h2) (fun k hk => hk.elim) hg (hv _ _ (L7 h1) (L8 h2))
 have hc := h.2 _ _ hrun (fun _ => False) ⟨fun _ => 0, fun _ => .slice none 0 0, fun _ => 0⟩ vals W (by simp only [z1]; exact hH)
 refine hc.mono fun e W' he => ?_
 obtain ⟨G', rv, e1, e2, e3⟩ := he
 refine ⟨?_, e3.keeps.os, e3.keeps.tape, e3.keeps.output, e3.keeps.size, fun k hk => e3.keeps.block k hk ?_⟩
 ·have hs := e2.slots
  have hs2 : All2 (HA (HR (fun _ => False) (enc Li (szS Li) [⟨.bool, true⟩]) G' W')) [lf (.pv ⟨.bool, true⟩)] rv := hs
  cases hs2 with
  | cons a b =>
   cases b
   have := ha_bool a
   subst this
   exact e1
 ·simp only [z1]
  exact M6 (L7 h1) (L8 h2)
end
section
def lieF (P : Program) (c : Nat → Ty → Bool) : List Field → Nat → Ty → Nat → Bool
 | [], o, .nil, n => o == n
 | f :: r, o, .cons a b, n => f.offset == o && (P.cellsOf f.type == a.size && (c f.type a && lieF P c r (o + a.size) b n))
 | _, _, _, _ => false
def lieE (P : Program) (c : Nat → Ty → Bool) (e : Nat) : Nat → Ty → Bool
 | 0, .nil => true
 | n + 1, .cons a b => P.cellsOf e == a.size && (c e a && lieE P c e n b)
 | _, _ => false
def lieT (P : Program) : Nat → Nat → Ty → Bool
 | 0, _, _ => false
 | n + 1, t, ty => match P.underlying t, ty with
  | some (.int k), .int k' => decide (k = k')
  | some .bool, .bool => true
  | some .string, .str => true
  | some (.slice e), .slice a => P.cellsOf e == a.size && (decide (0 < a.size) && lieT P n e a)
  | some (.struct fs), ty => lieF P (lieT P n) fs.toList 0 ty (P.cellsOf t)
  | some (.array m e), ty => P.cellsOf t == m * P.cellsOf e && lieE P (lieT P n) e m ty
  | _, _ => false
variable {H : Type} {enc : TypeId × Value → H} {P : Program} {W : World} {base : Nat} {spare : Nat → Bool} {held : Bool}
theorem A16 {base : Nat} {a : Addr} {n : Nat} {cs : List Value} (h : W.cells? base a n = some cs) : Cells W a cs := by
 obtain ⟨_, h1, h2⟩ := World.cells?_some h
 intro j v hv
 have hj : j < cs.length := (List.getElem?_eq_some_iff.1 hv).1
 rw [h2 j (by omega), hv]
theorem Awd {α β : Type} {R : α → β → Prop} : ∀ (l : List β), (∀ b ∈ l, ∃ a, R a b) → ∃ xs : List α, xs.length = l.length ∧ ∀ (i : Nat) (x : α) (b : β), xs[i]? = some x → l[i]? = some b → R x b
 | [], _ => ⟨[], rfl, fun i x b h => by simp at h⟩
 | b :: l, h => by
  obtain ⟨a, ha⟩ := h b (by simp)
  obtain ⟨xs, h1, h2⟩ := Awd l fun c hc => h c (by simp [hc])
  refine ⟨a :: xs, by simp [h1], fun i x c hx hc => ?_⟩
  cases i with
  | zero => simp at hx hc; subst hx; subst hc; exact ha
  | succ i => simp at hx hc; exact h2 i x c hx hc
theorem Bi1 {ok : Nat → Prop} (hok : ∀ b, b < W.heap.size → ok b) : ∀ (n : Nat) (t : Nat) (ty : Ty), lieT P n t ty = true → ∀ (fuel : Nat) (cs : List Value) (x : DataW H × List MemPlace),
  DataW.trod enc P W base spare held fuel t cs = some x → ∃ z : ty.den, Rep W ok ty z cs := by
 intro n
 induction n with
 | zero => intro t ty h; cases h
 | succ n ih =>
  intro t ty hc fuel cs x h
  unfold lieT at hc
  split at hc
  ·rename_i k k' hu
   simp only [decide_eq_true_eq] at hc
   subst hc
   obtain ⟨m, rfl, _, hw⟩ := DataW.trod_int hu h
   refine ⟨m, ?_⟩
   show [Value.int k m] = [Value.int k m] ∧ _
   exact ⟨rfl, hw⟩
  ·rename_i hu
   obtain ⟨b, rfl, _⟩ := DataW.trod_bool hu h
   refine ⟨b, ?_⟩
   show [Value.bool b] = [Value.bool b]
   rfl
  ·rename_i hu
   have h3 := DataW.trod_string hu h
   obtain ⟨s, rfl, _, hs⟩ := h3
   refine ⟨bs s, ?_⟩
   show ∃ y : ByteArray, [Value.string s] = [Value.string y] ∧ bs y = bs s ∧ y.size ≤ maxLen
   exact ⟨s, rfl, rfl, hs⟩
  ·rename_i e a hu
   simp only [Bool.and_eq_true, beq_iff_eq, decide_eq_true_eq] at hc
   obtain ⟨hsz, hpos, hch⟩ := hc
   rcases DataW.trod_slice hu h with ⟨rfl, _⟩ | ⟨A, len, cap, elems, rest, m, _, rfl, _, hb, hl, hm, hlen, hel, _, _⟩
   ·refine ⟨([] : List a.den), ?_⟩
    show Ev (α := a.den) W ok (fun x es => Rep W ok a x es) a.size [] _
    exact ⟨none, 0, rfl, Nat.le_refl _, Nat.zero_le _, fun e => absurd rfl e⟩
   ·have each : ∀ i ∈ List.range len, ∃ z : a.den, ∃ es, Rep W ok a z es ∧ Cells W (A.add (i * a.size)) es := by
     intro i hi
     rw [List.mem_range] at hi
     have h1 := hel i hi
     rw [List.getElem?_eq_getElem (by omega), Option.bind_eq_some_iff] at h1
     obtain ⟨es, h2, h3⟩ := h1
     obtain ⟨z, hz⟩ := ih e a hch _ _ _ h3
     rw [hsz] at h2
     exact ⟨z, es, hz, A16 h2⟩
    obtain ⟨xs, hx1, hx2⟩ := Awd (R := fun (z : a.den) (i : Nat) => ∃ es, Rep W ok a z es ∧ Cells W (A.add (i * a.size)) es) (List.range len) each
    rw [List.length_range] at hx1
    refine ⟨xs, ?_⟩
    show Ev (α := a.den) W ok (fun x es => Rep W ok a x es) a.size xs _
    refine ⟨some A, cap, by rw [← hx1], by omega, hm, fun hne => ?_⟩
    have h0 : 0 < len := by
     rcases Nat.eq_zero_or_pos len with e | e
     ·rw [e] at hx1; exact absurd (List.length_eq_zero_iff.1 hx1) hne
     ·exact e
    have hc0 := hx2 0 _ 0 (List.getElem?_eq_getElem (by omega)) (by simp [List.getElem?_range, h0])
    obtain ⟨es, hr, hcl⟩ := hc0
    have hlen0 := hr.len
    have hcell := hcl 0 es[0] (by simp)
    have hA : A.add (0 * a.size) = A := by simp [Addr.add]
    rw [hA] at hcell
    have hA0 : A.add 0 = A := by simp [Addr.add]
    rw [hA0] at hcell
    obtain ⟨c1, c2⟩ := cell_at hcell
    refine ⟨A, rfl, c1, hok _ c2, fun i z hz => ?_⟩
    have hi : i < len := by
     have := (List.getElem?_eq_some_iff.1 hz).1
     omega
    exact hx2 i z i hz (by simp [List.getElem?_range, hi])
  ·rename_i fs hu
   obtain ⟨xs, m, rfl, _, hcl, hxl, hfs⟩ := DataW.trod_struct hu h
   rw [← hcl] at hc
   have key : ∀ (l : List Field) (o : Nat) (ty : Ty), (∀ f ∈ l, ∃ y, DataW.trod enc P W base spare held m f.type ((cs.drop f.offset).take (P.cellsOf f.type)) = some y) →
     lieF P (lieT P n) l o ty cs.length = true → o ≤ cs.length → ∃ z : ty.den, Rep W ok ty z (cs.drop o) := by
    intro l
    induction l with
    | nil =>
     intro o ty _ hk ho
     cases ty with
     | nil =>
      simp only [lieF, beq_iff_eq] at hk
      refine ⟨(), ?_⟩
      show cs.drop o = []
      exact List.drop_eq_nil_of_le (by omega)
     | _ => simp [lieF] at hk
    | cons f l ihl =>
     intro o ty hf hk ho
     cases ty with
     | cons a b =>
      simp only [lieF, Bool.and_eq_true, beq_iff_eq] at hk
      obtain ⟨k1, k2, k3, k4⟩ := hk
      obtain ⟨y, hy⟩ := hf f (by simp)
      obtain ⟨z, hz⟩ := ih _ _ k3 _ _ _ hy
      rw [k1, k2] at hz
      have hzl := hz.len
      rw [List.length_take, List.length_drop] at hzl
      obtain ⟨z2, hz2⟩ := ihl (o + a.size) b (fun g hg => hf g (by simp [hg])) k4 (by
       by_cases h0 : a.size = 0
       ·omega
       ·omega)
      refine ⟨(z, z2), ?_⟩
      show ∃ c0 c1, cs.drop o = c0 ++ c1 ∧ Rep W ok a z c0 ∧ Rep W ok b z2 c1
      refine ⟨_, _, ?_, hz, hz2⟩
      rw [← List.drop_drop, List.take_append_drop]
     | _ => simp [lieF] at hk
   have := key fs.toList 0 _ (fun f hf => by
    obtain ⟨i, hi⟩ := List.getElem?_of_mem hf
    rw [Array.getElem?_toList] at hi
    have h2 := hfs i f hi
    have hlt : i < xs.length := by
     rw [hxl]
     exact (Array.getElem?_eq_some_iff.1 hi).1
    rw [List.getElem?_eq_getElem hlt] at h2
    exact ⟨_, h2⟩) hc (Nat.zero_le _)
   rwa [List.drop_zero] at this
  ·rename_i q e hu
   simp only [Bool.and_eq_true, beq_iff_eq] at hc
   obtain ⟨xs, m, rfl, _, hcl, hxl, hfs⟩ := DataW.trod_array hu h
   have key : ∀ (j : Nat) (o : Nat) (ty : Ty), o + j = q → lieE P (lieT P n) e j ty = true → ∃ z : ty.den, Rep W ok ty z (cs.drop (o * P.cellsOf e)) := by
    intro j
    induction j with
    | zero =>
     intro o ty hq hk
     cases ty with
     | nil =>
      refine ⟨(), ?_⟩
      show cs.drop (o * P.cellsOf e) = []
      refine List.drop_eq_nil_of_le ?_
      rw [hcl, hc.1, ← hq]
      exact Nat.le_refl _
     | _ => simp [lieE] at hk
    | succ j ihj =>
     intro o ty hq hk
     cases ty with
     | cons a b =>
      simp only [lieE, Bool.and_eq_true, beq_iff_eq] at hk
      obtain ⟨k2, k3, k4⟩ := hk
      have h2 := hfs o (by omega)
      rw [List.getElem?_eq_getElem (by omega)] at h2
      obtain ⟨z, hz⟩ := ih _ _ k3 _ _ _ h2
      obtain ⟨z2, hz2⟩ := ihj (o + 1) b (by omega) k4
      refine ⟨(z, z2), ?_⟩
      show ∃ c0 c1, cs.drop (o * P.cellsOf e) = c0 ++ c1 ∧ Rep W ok a z c0 ∧ Rep W ok b z2 c1
      refine ⟨_, _, ?_, hz, hz2⟩
      rw [Nat.add_mul, Nat.one_mul, ← List.drop_drop, List.take_append_drop]
     | _ => simp [lieE] at hk
   have := key q 0 _ (by omega) hc.2
   rwa [Nat.zero_mul, List.drop_zero] at this
  ·cases hc
theorem ha_agg_mk {F : Nat → Prop} {s : St} {G : Gm} {t : Ty} {z : t.den} {cs : Array Value} (h : Rep W (okS F s G W) t z cs.toList) : HA (HR F s G W) (.cv (.agg ((flat t z).map .pv))) (.agg cs) := by
 have h2 := K7 h
 refine ⟨cs, rfl, ?_⟩
 exact All2.map_left h2
theorem okW_agg {r : Reach} {b : Nat} {t : Nat} {v : Value} (ht : (match P.underlying t with | some (.struct _) => true | some (.array _ _) => true | _ => false) = true) (h : Value.okWide P W r b t v) : ∃ cs : Array Value, v = .agg cs := by
 unfold Value.okWide at h
 split at ht
 ·rename_i hu
  rw [hu] at h
  obtain ⟨cs, rfl, _⟩ := h
  exact ⟨cs, rfl⟩
 ·rename_i hu
  rw [hu] at h
  obtain ⟨cs, rfl, _⟩ := h
  exact ⟨cs, rfl⟩
 ·cases ht
theorem Bfe {F : Nat → Prop} {s : St} {G : Gm} {p : PL} {v : Value} (h : Rep W (okS F s G W) p.t p.x [v]) : HA (HR F s G W) (lf (.pv p)) v := h
end
section
variable {α R : Type}
def cat (x y : List Int) (K : List Int → Option R) : Option R := bif decide (List.length x + List.length y ≤ maxLen) then K (x ++ y) else none
def idx (d : α) (l : List α) (i : Int) (K : α → Option R) : Option R := bif inB i (List.length l) then K (rdA d l (Int.toNat i)) else none
def cut (l : List α) (lo hi : Int) (K : List α → Option R) : Option R := bif cutB lo hi (List.length l) then K (cutL l lo hi) else none
def app (b : Nat) (x y : List α) (K : List α → Option R) : Option R := bif appB b (List.length x) (List.length y) then K (x ++ y) else none
end
def Jj (id : Nat) : Code → Option (List Step1)
 | .seq a b => if Eg b = some id then some [.r] else match Jj id a with
  | some p => some (.l :: p)
  | none => (Jj id b).map fun p => .r :: p
 | .cond _ x y => match Jj id x with
  | some p => some (.t :: p)
  | none => (Jj id y).map fun p => .e :: p
 | .block _ b => (Jj id b).map fun p => .b :: p
 | .loop b => (Jj id b).map fun p => .b :: p
 | _ => none
def Jk (id : Nat) : Code → Option (List Step1)
 | .seq a b => match Jk id a with
  | some p => some (.l :: p)
  | none => (Jk id b).map fun p => .r :: p
 | .cond _ x y => match Jk id x with
  | some p => some (.t :: p)
  | none => (Jk id y).map fun p => .e :: p
 | .block _ b => (Jk id b).map fun p => .b :: p
 | .loop b => if Eg (.loop b) = some id then some [] else (Jk id b).map fun p => .b :: p
 | _ => none
def stOf (k : Sk) (n : Nat) (x : HLs k.tys) : St := enc k n (toPL k.tys x)
def st0 (C : Cfg) (f : Func) (k : Sk) (x : HLs k.tys) : St := { enc k C.n (toPL _ x) with slots := C7 k.slots (toPL _ x) ++ List.replicate (f.ntmps - k.slots.length) .dead }
section
variable {R : Type}
def J6 (C : Cfg) (k : Nat) (B : Code) (K : XE → St → Option R) (id : Nat) (ks : List Nat) (s : St) : Option R := evAt C k B ((Jj id B).getD []) ks K s
def J7 (C : Cfg) (k : Nat) (B : Code) (K : XE → St → Option R) (id : Nat) (ks : List Nat) (j : Nat) (s : St) : Option R := loopAt C k B ((Jk id B).getD []) ks j K s
abbrev JF (R : Type) := Nat → List Nat → St → Option R
abbrev LF (R : Type) := Nat → List Nat → Nat → St → Option R
def jl (J : JF R) (js : List (Nat × List Nat)) : Jt R := js.map fun x => (x.1, fun s => J x.1 x.2 s)
def ll (L : LF R) (ls : List (Nat × List Nat × Nat)) : Jt R := ls.map fun x => (x.1, fun s => L x.1 x.2.1 x.2.2 s)
theorem cut_gen {C : Cfg} {k : Nat} {B : Code} {K : XE → St → Option R} {p : List Step1} {ks : List Nat} {s : St} (js : List (Nat × List Nat)) (ls : List (Nat × List Nat × Nat)) (t : JF R → LF R → Option R) {r : Option R}
  (h0 : r = evAt C k B p ks K s) (hw : Gk B p ks = true) (hJ : keep (js.map fun x => x.1) (jt C k B p ks K) = jl (J6 C k B K) js) (hL : keep (ls.map fun x => x.1) (lt C k B p ks K) = ll (J7 C k B K) ls)
  (h1 : Fp (jl (J6 C k B K) js) = true) (h2 : Fp (ll (J7 C k B K) ls) = true) (h3 : Np (ls.map fun x => x.1) (lt C k B p ks K) = true)
  (h4 : ∀ (J : JF R) (L : LF R), Qe C (jl J js) (ll L ls) B p K s = t J L) : r = t (J6 C k B K) (J7 C k B K) :=
 h0.trans ((A7j s _ _ hw hJ hL h1 h2 h3).trans (h4 _ _))
structure FnX (R : Type) where
 C : Cfg
 k : Nat
 B : Code
 K : XE → St → Option R
def FnX.J (D : FnX R) : JF R := J6 D.C D.k D.B D.K
def FnX.L (D : FnX R) : LF R := J7 D.C D.k D.B D.K
def mkX (C : Cfg) (k : Nat) (f : Func) (o : Sk) : FnX (HLs o.tys) := ⟨C, k, Js f, retK C f.results o⟩
theorem cutX (D : FnX R) (p : List Step1) (ks : List Nat) (s : St) (js : List (Nat × List Nat)) (ls : List (Nat × List Nat × Nat)) (t : JF R → LF R → Option R) {r : Option R}
  (h0 : r = evAt D.C D.k D.B p ks D.K s) (hw : Gk D.B p ks = true) (hJ : keep (js.map fun x => x.1) (jt D.C D.k D.B p ks D.K) = jl (J6 D.C D.k D.B D.K) js) (hL : keep (ls.map fun x => x.1) (lt D.C D.k D.B p ks D.K) = ll (J7 D.C D.k D.B D.K) ls)
  (h1 : Fp (jl (J6 D.C D.k D.B D.K) js) = true) (h2 : Fp (ll (J7 D.C D.k D.B D.K) ls) = true) (h3 : Np (ls.map fun x => x.1) (lt D.C D.k D.B p ks D.K) = true)
  (h4 : ∀ (J : JF R) (L : LF R), Qe D.C (jl J js) (ll L ls) D.B p D.K s = t J L) : r = t D.J D.L :=
 cut_gen js ls t h0 hw hJ hL h1 h2 h3 h4
end
abbrev EnvL := List (Nat × List Sig)
def Ac (i o : Sk) (f : HLs i.tys → Option (HLs o.tys)) : Sig := ⟨i, o, Dr i.tys o.tys f⟩
def okB (C : Cfg) (fn : Func) (kin : Sk) : Bool := !(fn.name == "runtime.NumGoroutine") && (fn.body.isSome && (decide (C.npB = kin.boxes.length) && (decide (C.npO = kin.owns.length) && (decide (C.npB ≤ N0) && decide (C.npO ≤ N0)))))
noncomputable def hid {α : Type} (x : α) : α := Classical.choose (⟨x, rfl⟩ : ∃ y, y = x)
theorem Aue {α : Type} (x : α) : hid x = x := Classical.choose_spec (⟨x, rfl⟩ : ∃ y, y = x)
theorem Ad {α β : Type} (f : α → β) (x : α) : hid f x = f x := by rw [Aue]
theorem Af (C : Cfg) {l : EnvL} {kin kout : Sk} (k : Nat) (he : C.env = Kw l) (hl : Nm C.P l) (hm : C.P.follows .mixedOrders = true) {g : Nat} {fn : Func} (hf : C.P.funcs[g]? = some fn) (hb : okB C fn kin = true) :
  Aa C.P g (Ac kin kout (hid (Ab C k fn kin kout))) := by
 rw [Aue]
 unfold okB at hb
 simp only [Bool.and_eq_true, Bool.not_eq_true', decide_eq_true_eq] at hb
 obtain ⟨h1, h2, h3, h4, h5, h6⟩ := hb
 obtain ⟨c, hc⟩ := Option.isSome_iff_exists.1 h2
 exact fn_ok he hl hm k hf h1 (by unfold Js; rw [hc]) kin kout h3 h4 h5 h6
theorem w64 {n : Int} (h : -9223372036854775808 ≤ n ∧ n ≤ 9223372036854775807) : IntKind.wrap .i64 n = n := by
 rw [IntKind.wrap_i64]
 omega
theorem wu8 {n : Int} (h : 0 ≤ n ∧ n ≤ 255) : IntKind.wrap .u8 n = n := by
 have : IntKind.wrap .u8 n = n % 256 := rfl
 rw [this]
 omega
section
variable {α : Type} {x y : α} {z : Option α}
theorem cd {p : Prop} [Decidable p] : (bif decide p then x else y) = if p then x else y := by
 by_cases h : p <;> simp [h]
theorem cbeq {β : Type} [BEq β] [LawfulBEq β] [DecidableEq β] {a b : β} : (bif a == b then x else y) = if a = b then x else y := by
 by_cases h : a = b
 ·simp [h]
 ·have : (a == b) = false := by simpa using h
  rw [this, if_neg h]; rfl
theorem Q6 {p q : Prop} [Decidable p] [Decidable q] : (if p then (if q then x else y) else y) = if p ∧ q then x else y := by
 by_cases h : p <;> by_cases h2 : q <;> simp [h, h2]
theorem cbne {β : Type} [BEq β] [LawfulBEq β] [DecidableEq β] {a b : β} : (bif a != b then x else y) = if a = b then y else x := by
 by_cases h : a = b
 ·simp [h]
 ·have : (a != b) = true := by simpa using h
  rw [this, if_neg h]; rfl
theorem cand {a b : Bool} : (bif a && b then x else y) = bif a then (bif b then x else y) else y := by cases a <;> rfl
theorem cinB {i : Int} {n : Nat} : (bif inB i n then x else y) = if 0 ≤ i ∧ i < n then x else y := by
 unfold inB; rw [cand, cd, cd, Q6]
theorem Lm {i j : Int} {n : Nat} : (bif cutB i j n then x else y) = if 0 ≤ i ∧ i ≤ j ∧ j ≤ n then x else y := by
 unfold cutB; rw [cand, cand, cd, cd, cd, Q6, Q6]; simp only [and_assoc]
theorem Bk6 {b m n : Nat} : (bif appB b m n then x else y) = if (m + n) * b ≤ 140737488355328 ∧ m + n ≤ 9223372036854775807 then x else y := by
 unfold appB; rw [cand, cd, cd, Q6]; rfl
end
theorem iteS {α : Type} {c : Prop} [Decidable c] {x y z : α} (h1 : c → x = z) (h2 : ¬c → y = z) : (if c then x else y) = z := by
 by_cases h : c
 ·rw [if_pos h]; exact h1 h
 ·rw [if_neg h]; exact h2 h
theorem iteR {α : Type} {c : Prop} [Decidable c] {x y z : α} (h1 : c → z = x) (h2 : ¬c → z = y) : z = (if c then x else y) := by
 by_cases h : c
 ·rw [if_pos h]; exact h1 h
 ·rw [if_neg h]; exact h2 h
theorem Abz (l : List Int) (i : Nat) : rdI l (Int.toNat (i : Int)) = l.getD i 0 := by
 simp [rdI]
theorem rdA_nat {α : Type} (d : α) (l : List α) (i : Nat) : rdA d l (Int.toNat (i : Int)) = l.getD i d := by
 simp [rdA]
theorem P7 {α : Type} (l : List α) (i j : Nat) : cutL l (i : Int) (j : Int) = (l.take j).drop i := by
 simp [cutL]
theorem Nf (i : Nat) : ((i : Int) + 1) = ((i + 1 : Nat) : Int) := by simp
theorem Hm {l : List Int} {i : Nat} (h : i < l.length) : l.drop i = l.getD i 0 :: l.drop (i + 1) := by
 rw [List.drop_eq_getElem_cons h]
 simp [List.getD_eq_getElem?_getD, List.getElem?_eq_getElem h]
end Go.Proofs.YtipcdjgcomclkaaGreatDoorV
