import Derived.Test.YtghmhkpgdmgepaaProg
import Derived.Test.YtghmhkpgdmgepaaV31
import Derived.Tactics2
import Derived.Laws.Pointers
/-! Device: the deferred closures' contracts. -/
set_option linter.unusedVariables false
set_option linter.unusedSimpArgs false
namespace Go.Proofs.YtghmhkpgdmgepaaV
open Go Go.RowKit

theorem flatLf_any {G : Gm} {w : World} {ok : Nat → Prop} {os : List (Option Own)} {l : L} {v : Value} (hf : flatLf l = true) (h : HL G w ok os l v) : ∀ (G : Gm) (w : World) (ok : Nat → Prop) (os : List (Option Own)), HL G w ok os l v := by
  intro G' w' ok' os'
  cases l with
  | pv p => exact flat1_any (p := p) hf h w' ok'
  | cst k => exact h
  | _ => cases hf

def cloS (slots : List AV) (new : List (List L)) : St := { slots := slots, boxes := (new.map fun ls => some (ls.map fun _ => .dead)) ++ List.replicate 80 none, owns := [] }
def cloK (e : XE) (s : St) : Option St := match e with | .normal => some s | _ => none
def cloB (new : List (List L)) (s : St) : Bool := (List.range new.length).all fun b => match boxAt s b, new[b]? with
  | some ls, some n => n.all flatLf && (ls.length == n.length)
  | _, _ => false

theorem blkIn_get {w : World} : ∀ {ks : List Nat} {ns : List (List L)}, BlkIn w ks ns → ks.length = ns.length ∧ ∀ (i : Nat) (ls : List L), ns[i]? = some ls → ∃ k, ks[i]? = some k ∧ ∃ cs et, w.heap[k]? = some (.cells cs et (0, 0)) ∧ cs.size = ls.length ∧ ∀ v ∈ cs.toList, v.oneCell' = true
  | [], [], _ => ⟨rfl, fun i ls h => by simp at h⟩
  | k :: r, ls :: q, h => by
    obtain ⟨h1, h2⟩ := blkIn_get h.2
    refine ⟨by simp [h1], fun i l hi => ?_⟩
    cases i with
    | zero => cases hi; exact ⟨k, rfl, h.1⟩
    | succ i => exact h2 i l (by simpa using hi)
  | [], _ :: _, h => by cases h
  | _ :: _, [], h => by cases h
theorem blks_of {w w' : World} : ∀ {ks : List Nat} {ns : List (List L)}, ks.length = ns.length → (∀ (i k : Nat) (ls : List L), ks[i]? = some k → ns[i]? = some ls → ∃ cs et, w.heap[k]? = some (.cells cs et (0, 0)) ∧ ∃ cs', w'.heap[k]? = some (.cells cs' et (0, 0)) ∧ All2 (fun l v => ∀ (G : Gm) (w : World) (ok : Nat → Prop) (os : List (Option Own)), HL G w ok os l v) ls cs'.toList) → Blks w w' ks ns
  | [], [], _, _ => trivial
  | k :: r, n :: q, hl, h => ⟨h 0 k n rfl rfl, blks_of (by simpa using hl) fun i k' ls h1 h2 => h (i + 1) k' ls (by simpa using h1) (by simpa using h2)⟩

theorem clo_tailG {C : Cfg} {c : Code} {slots : List AV} {new : List (List L)} {ks : List Nat} (T : St → Prop)
    (hcode : ∀ (F : Nat → Prop) (G : Gm) (a : Act) (w : World) (Q : Exit → Act → World → Prop), Holds F (cloS slots new) G a.tmps.toList w →
      (∀ s1, T s1 → ∀ G' a' w', Holds F s1 G' a'.tmps.toList w' → Step C.npB C.npO (cloS slots new) G w s1 G' w' → a'.defers = a.defers → Q .normal a' w') → c.wp C.P Q a w)
    (hkn : C.npB = new.length)
    {w : World} (hn : ks.Nodup) (hb : BlkIn w ks new) {a : Act}
    (hs : ∀ (F : Nat → Prop) (G : Gm), (∀ i k, ks[i]? = some k → G.bx i = k) → All2 (HA (HR F (cloS slots new) G w)) slots a.tmps.toList)
    (hbox : ∀ s1, T s1 → ∀ b ls, new[b]? = some ls → boxAt s1 b = some ls) (hflat : new.all (fun ls => ls.all flatLf) = true)
    {Q : Exit → Act → World → Prop} (hQ : ∀ a' w', Keeps (fun k => k ∈ ks) w w' → Blks w w' ks new → a'.defers = a.defers → Q .normal a' w') : c.wp C.P Q a w := by
  obtain ⟨hlen, hget⟩ := blkIn_get hb
  -- where the boxes lie
  let et : Nat → Nat := fun i => match ks[i]?.bind (fun k => w.heap[k]?) with
    | some (.cells _ t _) => t
    | _ => 0
  let G : Gm := { bx := fun i => (ks[i]?).getD 0, ow := fun _ => undef, et := et }
  have hG : ∀ i k, ks[i]? = some k → G.bx i = k := fun i k h => by show (ks[i]?).getD 0 = k; rw [h]; rfl
  have hbx : ∀ b ls, boxAt (cloS slots new) b = some ls → ∃ n, new[b]? = some n ∧ ls = n.map fun _ => L.dead := by
    intro b ls h
    simp only [boxAt, cloS] at h
    by_cases hlt : b < new.length
    · rw [List.getElem?_append_left (by simpa using hlt), List.getElem?_map] at h
      cases hn : new[b]? with
      | none => rw [hn] at h; cases h
      | some n => rw [hn] at h; cases h; exact ⟨n, rfl, rfl⟩
    · rw [List.getElem?_append_right (by simpa using hlt), List.getElem?_replicate] at h
      split at h <;> cases h
  have hmem : ∀ j, Live (cloS slots new) G j → j ∈ ks := by
    rintro j (⟨b, ls, hb2, rfl⟩ | ⟨l, o, ho, _⟩)
    · obtain ⟨n, hn2, rfl⟩ := hbx b ls hb2
      obtain ⟨k, hk, _⟩ := hget b n hn2
      rw [hG b k hk]
      exact List.mem_of_getElem? hk
    · simp [ownAt, cloS] at ho
  have hH : Holds (fun j => j < w.heap.size ∧ j ∉ ks) (cloS slots new) G a.tmps.toList w := by
    refine ⟨hs _ G hG, fun b ls hb2 => ?_, fun l o ho => by simp [ownAt, cloS] at ho, fun b b' ls ls' k1 k2 e => ?_, fun b ls l o _ ho => by simp [ownAt, cloS] at ho, fun l l' o o' k ho => by simp [ownAt, cloS] at ho, fun k hL hF => hF.2 (hmem k hL), fun k hF => hF.1, fun b ls hb2 cs3 et3 fr3 hc3 => ?_⟩
    · obtain ⟨n, hn2, rfl⟩ := hbx b ls hb2
      obtain ⟨k, hk, cs, et, q1, q2, q3⟩ := hget b n hn2
      rw [hG b k hk]
      refine ⟨cs, et, q1, All2.of_get (by simp [q2]) fun i x y hx hy => ?_⟩
      simp only [List.getElem?_map] at hx
      cases hni : n[i]? with
      | none => rw [hni] at hx; cases hx
      | some z => rw [hni] at hx; cases hx; exact q3 y (List.mem_of_getElem? hy)
    · obtain ⟨n, hn2, rfl⟩ := hbx b ls k1
      obtain ⟨n', hn2', rfl⟩ := hbx b' ls' k2
      obtain ⟨k, hk, _⟩ := hget b n hn2
      obtain ⟨k', hk', _⟩ := hget b' n' hn2'
      rw [hG b k hk, hG b' k' hk'] at e
      subst e
      exact (List.getElem?_inj (List.getElem?_eq_some_iff.1 hk).1 hn).1 (hk.trans hk'.symm)
    · obtain ⟨n, hn2, rfl⟩ := hbx b ls hb2
      obtain ⟨k, hk, cs, et', q1, q2, q3⟩ := hget b n hn2
      rw [hG b k hk] at hc3
      show et3 = et b
      simp only [et, hk, Option.bind_some, hc3]
  refine hcode _ G a w Q hH fun s1 hT G' a' w' k1 k2 k3 => ?_
  refine hQ a' w' ⟨k2.keeps.os, k2.keeps.tape, k2.keeps.output, k2.keeps.size, fun j hj hm => k2.keeps.block j hj fun hL => hm (hmem j hL)⟩ (blks_of hlen fun i k ls hk hls => ?_) k3
  obtain ⟨k', hk', cs, et', q1, q2, q3⟩ := hget i ls hls
  rw [hk] at hk'
  cases hk'
  refine ⟨cs, et', q1, ?_⟩
  obtain ⟨cs2, et2, m1, m2⟩ := k1.box i ls (hbox s1 hT i ls hls)
  have hi : i < C.npB := by rw [hkn]; exact (List.getElem?_eq_some_iff.1 hls).1
  obtain ⟨g1, g2⟩ := k2.gb i hi
  have e1 : G'.bx i = k := g1.trans (hG i k hk)
  rw [e1] at m1
  have hty := k1.ty i ls (hbox s1 hT i ls hls)
  rw [e1] at hty
  have e2 : et2 = G'.et i := hty cs2 et2 (0, 0) m1
  have hty0 : et' = G.et i := by
    show et' = et i
    simp only [et, hk, Option.bind_some, q1]
  refine ⟨cs2, by rw [m1, e2, g2, hty0], ?_⟩
  have hfl := List.all_eq_true.1 (List.all_eq_true.1 hflat ls (List.mem_of_getElem? hls))
  exact m2.imp_mem fun l v hl hv => flatLf_any (hfl l hl) hv

theorem clo_tail {C : Cfg} (hE : EnvOK C) (hD : DrawOK C) (hnb : C.npB ≤ N0) (hno : C.npO ≤ N0) (k : Nat) {c : Code} {slots : List AV} {new : List (List L)} {ks : List Nat} (hkn : C.npB = new.length)
    {w : World} (hn : ks.Nodup) (hb : BlkIn w ks new) {a : Act}
    (hs : ∀ (F : Nat → Prop) (G : Gm), (∀ i k, ks[i]? = some k → G.bx i = k) → All2 (HA (HR F (cloS slots new) G w)) slots a.tmps.toList)
    {s1 : St} (he : ev C k c (cloS slots new) cloK = some s1) (hbox : ∀ b ls, new[b]? = some ls → boxAt s1 b = some ls) (hflat : new.all (fun ls => ls.all flatLf) = true)
    {Q : Exit → Act → World → Prop} (hQ : ∀ a' w', Keeps (fun k => k ∈ ks) w w' → Blks w w' ks new → a'.defers = a.defers → Q .normal a' w') : c.wp C.P Q a w := by
  obtain ⟨e, s', h1, h2⟩ := ev_sound hE hD hnb hno k c _ cloK s1 he
  have hen : e = .normal ∧ s' = s1 := by
    cases e <;> simp [cloK] at h1
    exact ⟨rfl, h1⟩
  obtain ⟨rfl, rfl⟩ := hen
  exact clo_tailG (fun s => s = s') (fun F G a w Q hH hQ => h2 F G a w Q hH fun G' a' w' x k0 k1 k2 k3 => by cases k0; exact hQ s' rfl G' a' w' k1 k2 k3) hkn hn hb hs (fun s1 h => by rw [h]; exact hbox) hflat hQ

/-- All orders of a region, one by one. -/
def anyF (C : Cfg) (ops : Array Oper) : Nat → Array Bool → St → Option (List St)
  | 0, listed, s => match Region.ready .any ops listed with | [] => some [s] | _ => none
  | fuel + 1, listed, s => match Region.ready .any ops listed with
    | [] => some [s]
    | r => r.foldr (fun i acc => match ops[i]? with
      | some o => ((operOc (opD C) ops s o).val).bind fun s' => (anyF C ops fuel (listed.setIfInBounds i true) s').bind fun l => acc.map fun m => l ++ m
      | none => none) (some [])
theorem foldr_get {f : Nat → Option (List St)} : ∀ {r : List Nat} {L : List St}, r.foldr (fun i acc => (f i).bind fun l => acc.map fun m => l ++ m) (some []) = some L → ∀ i ∈ r, ∃ l, f i = some l ∧ ∀ x ∈ l, x ∈ L
  | [], L, h, i, hi => by simp at hi
  | j :: r, L, h, i, hi => by
    simp only [List.foldr_cons] at h
    obtain ⟨l, h1, h2⟩ := Option.bind_eq_some_iff.1 h
    obtain ⟨m, h3, rfl⟩ := Option.map_eq_some_iff.1 h2
    rcases List.mem_cons.1 hi with rfl | hi
    · exact ⟨l, h1, fun x hx => List.mem_append_left _ hx⟩
    · obtain ⟨l2, h4, h5⟩ := foldr_get h3 i hi
      exact ⟨l2, h4, fun x hx => List.mem_append_right _ (h5 x hx)⟩
theorem anyF_sound {C : Cfg} {F : Nat → Prop} (hE : EnvOK C) {ops : Array Oper} (Q : Exit → Act → World → Prop) :
    ∀ (fuel : Nat) (listed : Array Bool) (s : St) (L : List St) (G : Gm) (a : Act) (w : World), anyF C ops fuel listed s = some L → Holds F s G a.tmps.toList w →
    (∀ sf ∈ L, ∀ G' a' w', Holds F sf G' a'.tmps.toList w' → Step N0 N0 s G w sf G' w' → a'.defers = a.defers → Q .normal a' w') →
    wpAny C.P .any ops Q fuel listed a w := by
  intro fuel
  induction fuel with
  | zero =>
    intro listed s L G a w h hH hQ
    unfold anyF at h
    split at h
    · rename_i hr
      cases h
      exact ⟨hr, hQ s (by simp) G a w hH (Step.refl _ _ _ _ _) rfl⟩
    · cases h
  | succ fuel ih =>
    intro listed s L G a w h hH hQ
    unfold anyF at h
    split at h
    · rename_i hr
      cases h
      refine ⟨fun _ => hQ s (by simp) G a w hH (Step.refl _ _ _ _ _) rfl, fun i hi => ?_⟩
      rw [hr] at hi
      simp at hi
    · rename_i hne
      refine ⟨fun hr => absurd hr hne, fun i hi => ?_⟩
      have h' : (Region.ready .any ops listed).foldr (fun i acc => (((ops[i]?).bind fun o => ((operOc (opD C) ops s o).val).bind fun s' => anyF C ops fuel (listed.setIfInBounds i true) s')).bind fun l => acc.map fun m => l ++ m) (some []) = some L := by
        rw [← h]
        congr 1
        funext i acc
        cases ops[i]? with
        | none => rfl
        | some o =>
          simp only [Option.bind_some]
          cases (operOc (opD C) ops s o).val <;> rfl
      obtain ⟨l, h1, h2⟩ := foldr_get h' i hi
      obtain ⟨o, ho, h3⟩ := Option.bind_eq_some_iff.1 h1
      obtain ⟨s', h4, h5⟩ := Option.bind_eq_some_iff.1 h3
      have hstep := oper_sound (fok_D hE) hH h4 (wpAny C.P .any ops Q fuel (listed.setIfInBounds i true)) Q fun G1 a1 w1 k1 k2 k3 =>
        ih (listed.setIfInBounds i true) s' l G1 a1 w1 h5 k1 fun sf hsf G2 a2 w2 m1 m2 m3 => hQ sf (h2 sf hsf) G2 a2 w2 m1 (k2.trans m2) (m3.trans k3)
      unfold wpOp
      simp only [ho]
      split
      · rename_i hw; rw [if_pos hw] at hstep; exact .inl hstep
      · rename_i hw; rw [if_neg hw] at hstep; exact hstep
theorem region_anyF {C : Cfg} {F : Nat → Prop} {s : St} {G : Gm} {a : Act} {w : World} {Q : Exit → Act → World → Prop} {id : Nat} (hm : C.P.follows .mixedOrders = true) (hE : EnvOK C) {ops : Array Oper} {L : List St} (h : anyF C ops ops.size (Array.replicate ops.size false) s = some L) (hH : Holds F s G a.tmps.toList w)
    (hQ : ∀ sf ∈ L, ∀ G' a' w', Holds F sf G' a'.tmps.toList w' → Step N0 N0 s G w sf G' w' → a'.defers = a.defers → Q .normal a' w') : (Code.region id ops true).wp C.P Q a w := by
  refine wp_region_any hm ?_
  have hg : Grew w { w with drawn := w.drawn + 1 } := ⟨rfl, rfl, rfl, Nat.le_refl _, fun _ _ _ => rfl⟩
  have hH2 : Holds F s G a.tmps.toList { w with drawn := w.drawn + 1 } := hH.grew hg
  exact anyF_sound hE Q _ _ s L G a _ h hH2 fun sf hs G' a' w' m1 m2 m3 => hQ sf hs G' a' w' m1 ((Step.grew hg).trans m2) m3
theorem blkIn_to {w w1 : World} (hs : ∀ (k : Nat) (x : Obj), w.heap[k]? = some x → w1.heap[k]? = some x) : ∀ {ks : List Nat} {ns : List (List L)}, BlkIn w ks ns → BlkIn w1 ks ns
  | [], [], _ => trivial
  | k :: r, n :: q, ⟨⟨cs, et, h1, h2⟩, h3⟩ => ⟨⟨cs, et, hs _ _ h1, h2⟩, blkIn_to hs h3⟩
  | [], _ :: _, h => by cases h
  | _ :: _, [], h => by cases h
theorem blks_to {w w1 w' : World} (hs : ∀ (k : Nat) (x : Obj), w.heap[k]? = some x → w1.heap[k]? = some x) : ∀ {ks : List Nat} {ns : List (List L)}, BlkIn w ks ns → Blks w1 w' ks ns → Blks w w' ks ns
  | [], [], _, _ => trivial
  | k :: r, n :: q, ⟨⟨cs, et, h1, h2⟩, h3⟩, ⟨⟨cs2, et2, h4, h5⟩, h6⟩ => ⟨by
      rw [hs _ _ h1] at h4
      cases h4
      exact ⟨cs, et, h1, h5⟩, blks_to hs h3 h6⟩
  | [], _ :: _, h, _ => by cases h
  | _ :: _, [], h, _ => by cases h
theorem heap_alloc_old {w : World} {o : Obj} : ∀ (k : Nat) (x : Obj), w.heap[k]? = some x → (w.alloc o).heap[k]? = some x := fun k x h => by
  obtain ⟨hl, _⟩ := Array.getElem?_eq_some_iff.1 h
  show (w.heap.push o)[k]? = some x
  rw [Array.getElem?_push_lt hl, ← h, Array.getElem?_eq_getElem hl]
theorem heap_alloc_size {w : World} {o : Obj} : w.heap.size ≤ (w.alloc o).heap.size := by
  show w.heap.size ≤ (w.heap.push o).size
  rw [Array.size_push]; omega
theorem opok {P : Program} {ops : Array Oper} {Q : Exit → Act → World → Prop} {a : Act} {w w1 : World} {rest : List Oper} {o : Oper} {v : Value} (hg : o.guard = none) (h : (execOp a.eval o).run P w = .ok (.value v) w1) (hr : wpList P ops Q rest (a.put o.dst v) w1) : wpList P ops Q (o :: rest) a w :=
  wpList_plain hg fun K hK => by unfold Oper.wp; rw [h]; exact hK _ _ hr

noncomputable def cloC (n npB : Nat) : Cfg := { P := Try.prog, env := fun _ => [], n := n, npB := npB, npO := 0, hint := fun _ => none, pops := [] }
theorem cloE (n npB : Nat) : EnvOK (cloC n npB) := fun g sg h => by cases h
theorem cloD (n npB : Nat) : DrawOK (cloC n npB) := draw_ok (by kernel_rfl) (cloE n npB)

def new11 (ps : List PL) : List (List L) := match ps with
  | [] => [[.cst .sl], [.pv ⟨.int .i64, (1 : Int)⟩]]
  | _ => []
theorem clo11_R (kd : Sk) (caps : List Nat) (h : caps.length = 2) : CloR Try.prog { g := 11, kd := kd, caps := caps, pt := 52, tp := [], pg := true, new := new11 } := by
  intro args w hs
  refine ⟨⟨Try.f11, by kernel_rfl, by kernel_rfl, by kernel_rfl⟩, callsD_of_wpS Try.func11 rfl fun c₀ cs hu => ?_⟩
  have hs2 : args.size = 2 := hs.trans h
  obtain ⟨x0, x1, rfl⟩ : ∃ x0 x1, args = #[x0, x1] := by
    rcases args with ⟨l⟩
    match l, hs2 with
    | [x0, x1], _ => exact ⟨x0, x1, rfl⟩
  apply wpS_seq
  apply wpS_region
  simp [wpOpsS, go_sem, recoverD, hu, Try.ntmps11, Exit.thenS]
  refine wpS_of_wp ?_
  go_wp2
  cases c₀
  simp_all [bodyPostS, results, Try.results11]
noncomputable def tail11 : Code := match bodyOf Try.f11 with
  | .seq _ (.block _ (.seq _ (.cond _ _ (.seq _ (.cond _ (.seq _ c) _))))) => c
  | _ => .skip
def slots11 : List AV := [lf (.ptr 0 0), lf (.ptr 1 0), .dead, .dead, .dead, .dead, .dead, .dead, .dead, .dead, .cv (.agg [])]
theorem tail11_ev : (ev (cloC 11 2) 0 tail11 (cloS slots11 (new11 [])) cloK).isSome = true := by kernel_rfl
theorem tail11_box : (ev (cloC 11 2) 0 tail11 (cloS slots11 (new11 [])) cloK).map (fun s => [boxAt s 0, boxAt s 1]) = some ((new11 []).map some) := by kernel_rfl
theorem clo11_P (kd : Sk) (caps : List Nat) (h : caps.length = 2) : CloP Try.prog { g := 11, kd := kd, caps := caps, pt := 52, tp := [], pg := true, new := new11 } := by
  intro ks w v ps hps hv hk hn hb
  cases ps with
  | cons p ps => cases hps
  | nil =>
    obtain ⟨cs0, h0, rfl⟩ := hv
    cases h0
    have hk2 : ks.length = 2 := hk.trans h
    obtain ⟨k0, k1, rfl⟩ : ∃ k0 k1, ks = [k0, k1] := by
      match ks, hk2 with
      | [x0, x1], _ => exact ⟨x0, x1, rfl⟩
    refine callsD_of_wpS Try.func11 rfl fun c₀ cs hu => ?_
    apply wpS_seq
    apply wpS_region
    simp [wpOpsS, go_sem, recoverD, hu, Try.ntmps11, Exit.thenS]
    refine wpS_of_wp (wp_block (wp_seq (wp_region_list (wpList_step fun K hK => ?_))))
    rw [if_pos (show Region.wanted _ _ = true from rfl)]
    have heq : ∀ (z : Value) (w : World), (Op.equal 20 (.iface 52 z) .nilIface).run Try.prog w = .ok false w := fun z w => run_ifc_nil_in2 9999 20 _ Try.underlying20 52 z
    have heb : ∀ (z : Value) (w : World), (binOp .eql 20 (.iface 52 z) .nilIface).run Try.prog w = .ok (.bool false) w := fun z w => by simp [binOp, heq]
    have hgd : ∀ (z : Value) (w : World), (eqGuard .eql 20 (.tmp 5) (.const .nilIface) (.iface 52 z) .nilIface).run Try.prog w = .ok () w := fun z w => by unfold eqGuard; simp
    simp [Oper.wp, execOp, Act.eval, hgd, heb, Oper.upon_value]
    refine hK _ _ ?_
    show Exit.then _ _ .normal _ _
    simp only [Exit.then]
    refine wp_cond_false (by simp [Act.eval, Act.put]) ?_
    clear heq heb hgd hK K
    refine wp_seq (wp_region_list (opok (v := .tuple #[.agg #[], .bool true]) (w1 := w) rfl ?_ (opok (v := .bool true) (w1 := w) rfl ?_ (opok (v := .agg #[]) (w1 := w) rfl ?_ (wpList_nil ?_)))))
    · simp [execOp, Act.eval, Act.put, Instr.typeAssert, run_underlying Try.underlying52]
    · simp [execOp, Act.eval, Act.put, go_sem]
    · simp [execOp, Act.eval, Act.put, go_sem]
    show Exit.then _ _ .normal _ _
    simp only [Exit.then]
    refine wp_cond_true (by simp [Act.eval, Act.put]) ?_
    refine wp_seq (wp_region_list (wpList_step fun K hK => ?_))
    rw [if_pos (show Region.wanted _ _ = true from rfl)]
    simp [Oper.wp, execOp, Act.eval, Act.put, go_sem]
    refine hK _ _ (wpList_step fun K2 hK2 => ?_)
    rw [if_pos (show Region.wanted _ _ = true from rfl)]
    simp [Oper.wp, execOp, Act.eval, Act.put, go_sem]
    refine hK2 _ _ ?_
    show Exit.then _ _ .normal _ _
    simp only [Exit.then]
    clear hK2 K2 hK K
    obtain ⟨s1, hs1⟩ := Option.isSome_iff_exists.1 tail11_ev
    have hbx := tail11_box
    rw [hs1] at hbx
    simp [new11] at hbx
    refine clo_tail (cloE 11 2) (cloD 11 2) (by decide) (by decide) 0 (c := tail11) (new := new11 []) rfl hn (blkIn_to heap_alloc_old hb) (fun F G hG => ?_) hs1 (fun b ls hb => ?_) rfl fun a' w' q1 q2 q3 => ?_
    · have e0 := hG 0 k0 rfl
      have e1 := hG 1 k1 rfl
      simp [slots11, lf]
      repeat' (first | exact All2.nil | refine All2.cons ?_ ?_)
      all_goals (try simp only [HA, HC, HR, HL, e0, e1])
      exact ⟨#[], rfl, .nil⟩
    · match b, hb with
      | 0, hb => cases hb; exact hbx.1
      | 1, hb => cases hb; exact hbx.2
    · have hk' : Keeps (fun k => k = k0 ∨ k = k1) w w' := ⟨q1.os, q1.tape, q1.output, Nat.le_trans heap_alloc_size q1.size, fun j hj hm => by
        rw [q1.block j (Nat.lt_of_lt_of_le hj heap_alloc_size) (by simpa using hm)]
        exact (heap_alloc_old j _ (Array.getElem?_eq_getElem hj)).trans (Array.getElem?_eq_getElem hj).symm⟩
      have hb' := blks_to heap_alloc_old hb q2
      cases c₀
      simp_all [bodyPostS, results, Try.results11, Exit.inBlock]

def new18 (ps : List PL) : List (List L) := match ps with
  | [⟨.int .i64, e⟩, ⟨.int .i64, p⟩] => [[.pv ⟨.int .i64, (0 : Int)⟩, .cst .sl, .pv ⟨.int .i64, (0 : Int)⟩, .pv ⟨.int .i64, (0 : Int)⟩, .pv ⟨.int .i64, (0 : Int)⟩, .pv ⟨.int .i64, (0 : Int)⟩, .pv ⟨.bool, false⟩, .pv ⟨.int .i64, (0 : Int)⟩], [.pv ⟨.int .i64, e⟩], [.pv ⟨.int .i64, p⟩]]
  | _ => []
set_option maxHeartbeats 2000000 in
theorem clo18_R (kd : Sk) (caps : List Nat) (h : caps.length = 3) : CloR Try.prog { g := 18, kd := kd, caps := caps, pt := 65, tp := [.int .i64, .int .i64], pg := true, new := new18 } := by
  intro args w hs
  refine ⟨⟨Try.f18, by kernel_rfl, by kernel_rfl, by kernel_rfl⟩, callsD_of_wpS Try.func18 rfl fun c₀ cs hu => ?_⟩
  have hs2 : args.size = 3 := hs.trans h
  obtain ⟨x0, x1, x2, rfl⟩ : ∃ x0 x1 x2, args = #[x0, x1, x2] := by
    rcases args with ⟨l⟩
    match l, hs2 with
    | [x0, x1, x2], _ => exact ⟨x0, x1, x2, rfl⟩
  apply wpS_seq
  apply wpS_region
  simp [wpOpsS, go_sem, recoverD, hu, Try.ntmps18, Exit.thenS]
  refine wpS_of_wp ?_
  go_wp2
  cases c₀
  simp_all [bodyPostS, results, Try.results18]
noncomputable def tail18 : Code := match bodyOf Try.f18 with
  | .seq _ (.block _ (.seq _ (.cond _ _ (.seq _ (.cond _ c _))))) => c
  | _ => .skip
def slots18 (e p : Int) : List AV := [lf (.ptr 0 0), lf (.ptr 1 0), lf (.ptr 2 0), .dead, .dead, .dead, .dead, .dead, .dead, .dead, .dead, .cv (.agg [.pv ⟨.int .i64, e⟩, .pv ⟨.int .i64, p⟩]), .dead, .dead, .dead, .dead, .dead]
noncomputable def r6 : Code := match tail18 with | .seq a _ => a | _ => .skip
noncomputable def r7o : Array Oper := match tail18 with | .seq _ (.region _ ops _) => ops | _ => #[]
def s18 (e p : Int) : St := cloS (slots18 e p) (new18 [⟨.int .i64, e⟩, ⟨.int .i64, p⟩])
theorem t18_6 (e p : Int) : (ev (cloC 17 3) 0 r6 (s18 e p) cloK).isSome = true := by kernel_rfl
theorem t18_B (e p : Int) : ((ev (cloC 17 3) 0 r6 (s18 e p) cloK).bind fun s6 => (anyF (cloC 17 3) r7o r7o.size (Array.replicate r7o.size false) s6).map fun L => L.map fun s => [boxAt s 0, boxAt s 1, boxAt s 2]) = some (List.replicate 126 ((new18 [⟨.int .i64, e⟩, ⟨.int .i64, p⟩]).map some)) := by kernel_rfl
theorem t18_L (e p : Int) (s6 : St) (h : ev (cloC 17 3) 0 r6 (s18 e p) cloK = some s6) : (anyF (cloC 17 3) r7o r7o.size (Array.replicate r7o.size false) s6).isSome = true := by
  have := t18_B e p
  rw [h, Option.bind_some] at this
  obtain ⟨L, h1, _⟩ := Option.map_eq_some_iff.1 this
  rw [h1]; rfl
theorem t18_box (e p : Int) (s6 : St) (h : ev (cloC 17 3) 0 r6 (s18 e p) cloK = some s6) (L : List St) (hL : anyF (cloC 17 3) r7o r7o.size (Array.replicate r7o.size false) s6 = some L) :
    ∀ s1, s1 ∈ L → ∀ b ls, (new18 [⟨.int .i64, e⟩, ⟨.int .i64, p⟩])[b]? = some ls → boxAt s1 b = some ls := by
  have := t18_B e p
  rw [h, Option.bind_some, hL, Option.map_some] at this
  have h2 := Option.some.inj this
  intro s1 hs b ls hb
  have h3 : [boxAt s1 0, boxAt s1 1, boxAt s1 2] ∈ L.map (fun s => [boxAt s 0, boxAt s 1, boxAt s 2]) := List.mem_map.2 ⟨s1, hs, rfl⟩
  rw [h2] at h3
  have h4 := List.eq_of_mem_replicate h3
  simp [new18] at h4
  obtain ⟨g0, g1, g2⟩ := h4
  match b, hb with
  | 0, hb => cases hb; exact g0
  | 1, hb => cases hb; exact g1
  | 2, hb => cases hb; exact g2
set_option maxHeartbeats 1000000 in
theorem clo18_P (kd : Sk) (caps : List Nat) (h : caps.length = 3) : CloP Try.prog { g := 18, kd := kd, caps := caps, pt := 65, tp := [.int .i64, .int .i64], pg := true, new := new18 } := by
  intro ks w v ps hps hv hk hn hb
  obtain ⟨e, p, rfl⟩ : ∃ e p : Int, ps = [⟨.int .i64, e⟩, ⟨.int .i64, p⟩] := by
    clear hv hb
    cases ps with
    | nil => cases hps
    | cons a r => cases r with
      | nil => simp [tysEq] at hps
      | cons b r2 => cases r2 with
        | cons c r3 => simp [tysEq] at hps
        | nil =>
          obtain ⟨t1, e⟩ := a
          obtain ⟨t2, p⟩ := b
          simp [tysEq] at hps
          obtain ⟨rfl, rfl⟩ := hps
          exact ⟨e, p, rfl⟩
  obtain ⟨cs0, h0, rfl⟩ := hv
  have hcs : cs0 = [.int .i64 e, .int .i64 p] := by
    cases h0 with
    | cons a r => cases r with
      | cons b r2 =>
        cases r2
        have h1 := a.2 w (fun _ => True)
        have h2 := b.2 w (fun _ => True)
        have h1' : [_] = [Value.int .i64 e] := h1.1
        have h2' : [_] = [Value.int .i64 p] := h2.1
        rw [List.singleton_inj.1 h1', List.singleton_inj.1 h2']
  subst hcs
  have hk2 : ks.length = 3 := hk.trans h
  obtain ⟨k0, k1, k2, rfl⟩ : ∃ k0 k1 k2, ks = [k0, k1, k2] := by
    match ks, hk2 with
    | [x0, x1, x2], _ => exact ⟨x0, x1, x2, rfl⟩
  refine callsD_of_wpS Try.func18 rfl fun c₀ cs hu => ?_
  apply wpS_seq
  apply wpS_region
  simp [wpOpsS, go_sem, recoverD, hu, Try.ntmps18, Exit.thenS]
  refine wpS_of_wp (wp_block (wp_seq (wp_region_list (wpList_step fun K hK => ?_))))
  rw [if_pos (show Region.wanted _ _ = true from rfl)]
  have heq : ∀ (z : Value) (w : World), (Op.equal 20 (.iface 65 z) .nilIface).run Try.prog w = .ok false w := fun z w => run_ifc_nil_in2 9999 20 _ Try.underlying20 65 z
  have heb : ∀ (z : Value) (w : World), (binOp .eql 20 (.iface 65 z) .nilIface).run Try.prog w = .ok (.bool false) w := fun z w => by simp [binOp, heq]
  have hgd : ∀ (z : Value) (w : World), (eqGuard .eql 20 (.tmp 6) (.const .nilIface) (.iface 65 z) .nilIface).run Try.prog w = .ok () w := fun z w => by unfold eqGuard; simp
  simp [Oper.wp, execOp, Act.eval, hgd, heb, Oper.upon_value]
  refine hK _ _ ?_
  show Exit.then _ _ .normal _ _
  simp only [Exit.then]
  refine wp_cond_false (by simp [Act.eval, Act.put]) ?_
  clear heq heb hgd hK K
  refine wp_seq (wp_region_list (opok (v := .tuple #[.agg #[.int .i64 e, .int .i64 p], .bool true]) (w1 := w) rfl ?_ (opok (v := .bool true) (w1 := w) rfl ?_ (opok (v := .agg #[.int .i64 e, .int .i64 p]) (w1 := w) rfl ?_ (wpList_nil ?_)))))
  · simp [execOp, Act.eval, Act.put, Instr.typeAssert, run_underlying Try.underlying65]
  · simp [execOp, Act.eval, Act.put, go_sem]
  · simp [execOp, Act.eval, Act.put, go_sem]
  show Exit.then _ _ .normal _ _
  simp only [Exit.then]
  refine wp_cond_true (by simp [Act.eval, Act.put]) ?_
  obtain ⟨s6, hs6⟩ := Option.isSome_iff_exists.1 (t18_6 e p)
  obtain ⟨L, hL⟩ := Option.isSome_iff_exists.1 (t18_L e p s6 hs6)
  refine clo_tailG (C := cloC 17 3) (c := tail18) (slots := slots18 e p) (new := new18 [⟨.int .i64, e⟩, ⟨.int .i64, p⟩]) (fun s => s ∈ L) (fun F G a w Q hH hQ => ?_) rfl hn hb (fun F G hG => ?_) (t18_box e p s6 hs6 L hL) rfl fun a' w' q1 q2 q3 => ?_
  · obtain ⟨x, s', h1, h2⟩ := ev_sound (cloE 17 3) (cloD 17 3) (by decide) (by decide) 0 r6 _ cloK s6 hs6
    have hen : x = .normal ∧ s' = s6 := by
      cases x <;> simp [cloK] at h1
      exact ⟨rfl, h1⟩
    obtain ⟨rfl, rfl⟩ := hen
    show Code.wp Try.prog (.seq r6 (.region 7 r7o true)) Q a w
    refine wp_seq (h2 F G a w _ hH fun G1 a1 w1 x k0 k1 k2 k3 => ?_)
    cases k0
    exact region_anyF (C := cloC 17 3) (by kernel_rfl) (cloE 17 3) hL k1 fun sf hsf G2 a2 w2 m1 m2 m3 => hQ sf hsf G2 a2 w2 m1 (k2.trans (m2.le (by decide) (by decide))) (m3.trans k3)
  · have e0 := hG 0 k0 rfl
    have e1 := hG 1 k1 rfl
    have e2 := hG 2 k2 rfl
    generalize hX : Array.toList _ = vs
    have hv2 : vs = [.pointer (some ⟨k0, 0, none⟩), .pointer (some ⟨k1, 0, none⟩), .pointer (some ⟨k2, 0, none⟩), undef, undef, undef, .iface 65 (.agg #[.int .i64 e, .int .i64 p]), undef, .bool false, .tuple #[.agg #[.int .i64 e, .int .i64 p], .bool true], .bool true, .agg #[.int .i64 e, .int .i64 p], undef, undef, undef, undef, undef] := by
      rw [← hX]; kernel_rfl
    subst hv2
    have hagg : HA (HR F (cloS (slots18 e p) (new18 [⟨.int .i64, e⟩, ⟨.int .i64, p⟩])) G w) (.cv (.agg [.pv ⟨.int .i64, e⟩, .pv ⟨.int .i64, p⟩])) (.agg #[.int .i64 e, .int .i64 p]) := by
      refine ⟨_, rfl, ?_⟩
      cases h0 with
      | cons a r => cases r with
        | cons b r2 =>
          have ha := a.2 w (okS F (cloS (slots18 e p) (new18 [⟨.int .i64, e⟩, ⟨.int .i64, p⟩])) G w)
          have hb := b.2 w (okS F (cloS (slots18 e p) (new18 [⟨.int .i64, e⟩, ⟨.int .i64, p⟩])) G w)
          exact All2.cons ha (All2.cons hb All2.nil)
    have hd : ∀ v, HA (HR F (cloS (slots18 e p) (new18 [⟨.int .i64, e⟩, ⟨.int .i64, p⟩])) G w) .dead v := fun v => trivial
    have hp : ∀ i k, G.bx i = k → HA (HR F (cloS (slots18 e p) (new18 [⟨.int .i64, e⟩, ⟨.int .i64, p⟩])) G w) (lf (.ptr i 0)) (.pointer (some ⟨k, 0, none⟩)) := fun i k h => by
      show Value.pointer (some ⟨k, 0, none⟩) = .pointer (some ⟨G.bx i, 0, none⟩)
      rw [h]
    exact .cons (hp 0 k0 e0) (.cons (hp 1 k1 e1) (.cons (hp 2 k2 e2) (.cons (hd _) (.cons (hd _) (.cons (hd _) (.cons (hd _) (.cons (hd _) (.cons (hd _) (.cons (hd _) (.cons (hd _) (.cons hagg (.cons (hd _) (.cons (hd _) (.cons (hd _) (.cons (hd _) (.cons (hd _) .nil))))))))))))))))
  · have q4 : a'.defers = [] := by rw [q3]; simp only [put_defers]
    clear q3 hs6 hL
    cases c₀
    simp_all [bodyPostS, results, Try.results18, Exit.inBlock]
end Go.Proofs.YtghmhkpgdmgepaaV
