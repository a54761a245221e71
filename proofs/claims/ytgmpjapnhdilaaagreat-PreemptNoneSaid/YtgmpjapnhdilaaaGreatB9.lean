import Derived.Test.YtgmpjapnhdilaaaGreatB8
/-! Joined, names shortened: QW. -/
set_option linter.unusedVariables false
set_option linter.unusedSimpArgs false
set_option maxRecDepth 1000000
namespace Go.Proofs.YtgmpjapnhdilaaaGreatV
open Go Go.RowKit
noncomputable section
def Ab9 (h : (α : Type) → α → α) (k : Nat) : Int → Option Bool := h _ (Ac (Amg k) k Tryz.f104 Vd Ve)
theorem Auv (k : Nat) : Gy k = Ab9 (fun α x => hid x) k := by delta Gy Ab9; rfl
def Aqs (h : (α : Type) → α → α) (k : Nat) : Sig := Ab Vd Ve (Ab9 h k)
theorem A8o (k : Nat) : Yk k = Aqs (fun α x => hid x) k := by delta Yk Aqs; first | (rw [Auv k]; done) | (rw [Auv k]; rfl)
def Aes (h : (α : Type) → α → α) (k : Nat) : EnvL := [(104, [Aqs h k])]
theorem Awy (k : Nat) : Aer k = Aes (fun α x => hid x) k := by delta Aer Aes; first | (rw [A8o k]; done) | (rw [A8o k]; rfl)
def Aew (h : (α : Type) → α → α) (k : Nat) : FnX Int := mkX ({ mkC (Aes h k) 67 0 0 with hint := fun i => look none [(2, some Aeu)] i }) k Tryz.f106 Jf
theorem Aw0 (k : Nat) : Cw k = Aew (fun α x => hid x) k := by delta Cw Aew; first | (rw [Awy k]; done) | (rw [Awy k]; rfl)
def Aab (h : (α : Type) → α → α) (k : Nat) : (List (Int)) → Option Int := h _ (Ac (Aew h k).C k Tryz.f106 M6 Jf)
theorem Asj (k : Nat) : L8 k = Aab (fun α x => hid x) k := by delta L8 Aab; first | (rw [Aw0 k]; done) | (rw [Aw0 k]; rfl)
def Apj (h : (α : Type) → α → α) (k : Nat) : Sig := Ab M6 Jf (Aab h k)
theorem A69 (k : Nat) : Xg k = Apj (fun α x => hid x) k := by delta Xg Apj; first | (rw [Asj k]; done) | (rw [Asj k]; rfl)
def Ac8 (h : (α : Type) → α → α) (k : Nat) : EnvL := [(106, [Apj h k])]
theorem Av0 (k : Nat) : Ac7 k = Ac8 (fun α x => hid x) k := by delta Ac7 Ac8; first | (rw [A69 k]; done) | (rw [A69 k]; rfl)
def Ac6 (h : (α : Type) → α → α) (k : Nat) : Cfg := mkC (Ac8 h k) 57 0 0
theorem Avz (k : Nat) : R8 k = Ac6 (fun α x => hid x) k := by delta R8 Ac6; first | (rw [Av0 k]; done) | (rw [Av0 k]; rfl)
def Zs (h : (α : Type) → α → α) (k : Nat) : (List (Int)) → Option Bool := h _ (Ac (Ac6 h k) k Tryz.f103 R9 Sa)
theorem Ar6 (k : Nat) : Lw k = Zs (fun α x => hid x) k := by delta Lw Zs; first | (rw [Avz k]; done) | (rw [Avz k]; rfl)
def Ao8 (h : (α : Type) → α → α) (k : Nat) : Sig := Ab R9 Sa (Zs h k)
theorem A6z (k : Nat) : W4 k = Ao8 (fun α x => hid x) k := by delta W4 Ao8; first | (rw [Ar6 k]; done) | (rw [Ar6 k]; rfl)
def Amf (h : (α : Type) → α → α) (k : Nat) : EnvL := [(103, [Ao8 h k])]
theorem A2f (k : Nat) : Ame k = Amf (fun α x => hid x) k := by delta Ame Amf; first | (rw [A6z k]; done) | (rw [A6z k]; rfl)
def Amd (h : (α : Type) → α → α) (k : Nat) : Cfg := mkC (Amf h k) 54 0 0
theorem A2e (k : Nat) : Vc k = Amd (fun α x => hid x) k := by delta Vc Amd; first | (rw [A2f k]; done) | (rw [A2f k]; rfl)
def Aca (h : (α : Type) → α → α) (k : Nat) : (List (Int)) → Option Bool := h _ (Ac (Amd h k) k Tryz.f97 ftimestimesi ftimestimeso)
theorem Aux (k : Nat) : ctimestimes k = Aca (fun α x => hid x) k := by delta ctimestimes Aca; first | (rw [A2e k]; done) | (rw [A2e k]; rfl)
def Yl (h : (α : Type) → α → α) (k : Nat) : Sig := Ab ftimestimesi ftimestimeso (Aca h k)
theorem Ym (k : Nat) : sgtimestimes k = Yl (fun α x => hid x) k := by delta sgtimestimes Yl; first | (rw [Aux k]; done) | (rw [Aux k]; rfl)
def Amc (h : (α : Type) → α → α) (k : Nat) : EnvL := [(97, [Yl h k])]
theorem A2b (k : Nat) : Amb k = Amc (fun α x => hid x) k := by delta Amb Amc; first | (rw [Ym k]; done) | (rw [Ym k]; rfl)
def Ama (h : (α : Type) → α → α) (k : Nat) : Cfg := mkC (Amc h k) 58 0 0
theorem A2a (k : Nat) : U9 k = Ama (fun α x => hid x) k := by delta U9 Ama; first | (rw [A2b k]; done) | (rw [A2b k]; rfl)
def Ab7 (h : (α : Type) → α → α) (k : Nat) : H23 → Option Bool := h _ (Ac (Ama h k) k Tryz.f99 Va Vb)
theorem Aut (k : Nat) : Gx k = Ab7 (fun α x => hid x) k := by delta Gx Ab7; first | (rw [A2a k]; done) | (rw [A2a k]; rfl)
def Aqq (h : (α : Type) → α → α) (k : Nat) : Sig := Ab Va Vb (Ab7 h k)
theorem A8m (k : Nat) : Yj k = Aqq (fun α x => hid x) k := by delta Yj Aqq; first | (rw [Aut k]; done) | (rw [Aut k]; rfl)
def Aem (h : (α : Type) → α → α) (k : Nat) : EnvL := [(99, [Aqq h k])]
theorem Awv (k : Nat) : Ael k = Aem (fun α x => hid x) k := by delta Ael Aem; first | (rw [A8m k]; done) | (rw [A8m k]; rfl)
def Aeq (h : (α : Type) → α → α) (k : Nat) : FnX Int := mkX ({ mkC (Aem h k) 67 0 0 with hint := fun i => look none [(2, some Aeo)] i }) k Tryz.f105 Je
theorem Awx (k : Nat) : Cv k = Aeq (fun α x => hid x) k := by delta Cv Aeq; first | (rw [Awv k]; done) | (rw [Awv k]; rfl)
def Aaa (h : (α : Type) → α → α) (k : Nat) : (List (YT5)) → Option Int := h _ (Ac (Aeq h k).C k Tryz.f105 M4 Je)
theorem Asi (k : Nat) : L7 k = Aaa (fun α x => hid x) k := by delta L7 Aaa; first | (rw [Awx k]; done) | (rw [Awx k]; rfl)
def Api (h : (α : Type) → α → α) (k : Nat) : Sig := Ab M4 Je (Aaa h k)
theorem A68 (k : Nat) : Xf k = Api (fun α x => hid x) k := by delta Xf Api; first | (rw [Asi k]; done) | (rw [Asi k]; rfl)
def Ac5 (h : (α : Type) → α → α) (k : Nat) : EnvL := [(105, [Api h k])]
theorem Avx (k : Nat) : Ac4 k = Ac5 (fun α x => hid x) k := by delta Ac4 Ac5; first | (rw [A68 k]; done) | (rw [A68 k]; rfl)
def Ac3 (h : (α : Type) → α → α) (k : Nat) : Cfg := mkC (Ac5 h k) 57 0 0
theorem Avw (k : Nat) : R5 k = Ac3 (fun α x => hid x) k := by delta R5 Ac3; first | (rw [Avx k]; done) | (rw [Avx k]; rfl)
def Zr (h : (α : Type) → α → α) (k : Nat) : (List (YT5)) → Option Bool := h _ (Ac (Ac3 h k) k Tryz.f98 R6 R7)
theorem Ar5 (k : Nat) : Ie k = Zr (fun α x => hid x) k := by delta Ie Zr; first | (rw [Avw k]; done) | (rw [Avw k]; rfl)
def Ao7 (h : (α : Type) → α → α) (k : Nat) : Sig := Ab R6 R7 (Zr h k)
theorem A6y (k : Nat) : W3 k = Ao7 (fun α x => hid x) k := by delta W3 Ao7; first | (rw [Ar5 k]; done) | (rw [Ar5 k]; rfl)
def Al9 (h : (α : Type) → α → α) (k : Nat) : EnvL := [(97, [Yl h k]), (98, [Ao7 h k])]
theorem A19 (k : Nat) : Al8 k = Al9 (fun α x => hid x) k := by delta Al8 Al9; first | (rw [Ym k, A6y k]; done) | (rw [Ym k, A6y k]; rfl)
def Al7 (h : (α : Type) → α → α) (k : Nat) : Cfg := mkC (Al9 h k) 65 0 0
theorem A18 (k : Nat) : U8 k = Al7 (fun α x => hid x) k := by delta U8 Al7; first | (rw [A19 k]; done) | (rw [A19 k]; rfl)
def Ab8 (h : (α : Type) → α → α) (k : Nat) : H25 → Option Bool := h _ (Ac (Al7 h k) k Tryz.f82 ftimestimedi ftimestimedo)
theorem Auu (k : Nat) : ctimestimed k = Ab8 (fun α x => hid x) k := by delta ctimestimed Ab8; first | (rw [A18 k]; done) | (rw [A18 k]; rfl)
def Aqr (h : (α : Type) → α → α) (k : Nat) : Sig := Ab ftimestimedi ftimestimedo (Ab8 h k)
theorem A8n (k : Nat) : sgtimestimed k = Aqr (fun α x => hid x) k := by delta sgtimestimed Aqr; first | (rw [Auu k]; done) | (rw [Auu k]; rfl)
def Al0 (h : (α : Type) → α → α) (k : Nat) : EnvL := [(82, [Aqr h k])]
theorem A13 (k : Nat) : Alz k = Al0 (fun α x => hid x) k := by delta Alz Al0; first | (rw [A8n k]; done) | (rw [A8n k]; rfl)
def Aly (h : (α : Type) → α → α) (k : Nat) : Cfg := mkC (Al0 h k) 54 0 0
theorem A12 (k : Nat) : U3 k = Aly (fun α x => hid x) k := by delta U3 Aly; first | (rw [A13 k]; done) | (rw [A13 k]; rfl)
def Ab5 (h : (α : Type) → α → α) (k : Nat) : H25 → Option Bool := h _ (Ac (Aly h k) k Tryz.f81 U4 U5)
theorem Auq (k : Nat) : Iw k = Ab5 (fun α x => hid x) k := by delta Iw Ab5; first | (rw [A12 k]; done) | (rw [A12 k]; rfl)
def Aqp (h : (α : Type) → α → α) (k : Nat) : Sig := Ab U4 U5 (Ab5 h k)
theorem A8l (k : Nat) : Yg k = Aqp (fun α x => hid x) k := by delta Yg Aqp; first | (rw [Auq k]; done) | (rw [Auq k]; rfl)
def Ad8 (h : (α : Type) → α → α) (k : Nat) : EnvL := [(81, [Aqp h k])]
theorem Awn (k : Nat) : Ad7 k = Ad8 (fun α x => hid x) k := by delta Ad7 Ad8; first | (rw [A8l k]; done) | (rw [A8l k]; rfl)
def Aee (h : (α : Type) → α → α) (k : Nat) : FnX Int := mkX ({ mkC (Ad8 h k) 67 0 0 with hint := fun i => look none [(2, some Aea)] i }) k Tryz.f91 Jc
theorem Awr (k : Nat) : Ct k = Aee (fun α x => hid x) k := by delta Ct Aee; first | (rw [Awn k]; done) | (rw [Awn k]; rfl)
def Z8 (h : (α : Type) → α → α) (k : Nat) : (List (YT6)) → Option Int := h _ (Ac (Aee h k).C k Tryz.f91 M0 Jc)
theorem Asg (k : Nat) : L0 k = Z8 (fun α x => hid x) k := by delta L0 Z8; first | (rw [Awr k]; done) | (rw [Awr k]; rfl)
def Apg (h : (α : Type) → α → α) (k : Nat) : Sig := Ab M0 Jc (Z8 h k)
theorem A66 (k : Nat) : Xc k = Apg (fun α x => hid x) k := by delta Xc Apg; first | (rw [Asg k]; done) | (rw [Asg k]; rfl)
def Acz (h : (α : Type) → α → α) (k : Nat) : EnvL := [(91, [Apg h k])]
theorem Avr (k : Nat) : Acy k = Acz (fun α x => hid x) k := by delta Acy Acz; first | (rw [A66 k]; done) | (rw [A66 k]; rfl)
def Acx (h : (α : Type) → α → α) (k : Nat) : Cfg := mkC (Acz h k) 57 0 0
theorem Avq (k : Nat) : Rz k = Acx (fun α x => hid x) k := by delta Rz Acx; first | (rw [Avr k]; done) | (rw [Avr k]; rfl)
def Zp (h : (α : Type) → α → α) (k : Nat) : (List (YT6)) → Option Bool := h _ (Ac (Acx h k) k Tryz.f80 R0 R1)
theorem Ar3 (k : Nat) : Ib k = Zp (fun α x => hid x) k := by delta Ib Zp; first | (rw [Avq k]; done) | (rw [Avq k]; rfl)
def Ao5 (h : (α : Type) → α → α) (k : Nat) : Sig := Ab R0 R1 (Zp h k)
theorem A6w (k : Nat) : W1 k = Ao5 (fun α x => hid x) k := by delta W1 Ao5; first | (rw [Ar3 k]; done) | (rw [Ar3 k]; rfl)
def Alx (h : (α : Type) → α → α) (k : Nat) : EnvL := [(80, [Ao5 h k])]
theorem A11 (k : Nat) : Alw k = Alx (fun α x => hid x) k := by delta Alw Alx; first | (rw [A6w k]; done) | (rw [A6w k]; rfl)
def Al6 (h : (α : Type) → α → α) (k : Nat) : FnX Bool := mkX ({ mkC (Alx h k) 86 0 0 with hint := fun i => look none [(4, some Al3), (9, some Al4)] i }) k Tryz.f50 ftimessoundo
theorem A17 (k : Nat) : ftimessound k = Al6 (fun α x => hid x) k := by delta ftimessound Al6; first | (rw [A11 k]; done) | (rw [A11 k]; rfl)
def Ab6 (h : (α : Type) → α → α) (k : Nat) : H19 → Option Bool := h _ (Ac (Al6 h k).C k Tryz.f50 ftimessoundi ftimessoundo)
theorem Aus (k : Nat) : ctimessound k = Ab6 (fun α x => hid x) k := by delta ctimessound Ab6; first | (rw [A17 k]; done) | (rw [A17 k]; rfl)
def Yh (h : (α : Type) → α → α) (k : Nat) : Sig := Ab ftimessoundi ftimessoundo (Ab6 h k)
theorem Yi (k : Nat) : sgtimessound k = Yh (fun α x => hid x) k := by delta sgtimessound Yh; first | (rw [Aus k]; done) | (rw [Aus k]; rfl)
def Ab3 (h : (α : Type) → α → α) (k : Nat) : (List (List (YT6))) → Option Int := h _ (Ac (ftimeslong k).C k Tryz.f61 ftimeslongi ftimeslongo)
theorem Auo (k : Nat) : ctimeslong k = Ab3 (fun α x => hid x) k := by delta ctimeslong Ab3; rfl
def Aqn (h : (α : Type) → α → α) (k : Nat) : Sig := Ab ftimeslongi ftimeslongo (Ab3 h k)
theorem A8j (k : Nat) : sgtimeslong k = Aqn (fun α x => hid x) k := by delta sgtimeslong Aqn; first | (rw [Auo k]; done) | (rw [Auo k]; rfl)
def Ali (h : (α : Type) → α → α) (k : Nat) : EnvL := [(50, [Yh h k]), (61, [Aqn h k])]
theorem A1r (k : Nat) : Alh k = Ali (fun α x => hid x) k := by delta Alh Ali; first | (rw [Yi k, A8j k]; done) | (rw [Yi k, A8j k]; rfl)
def Alm (h : (α : Type) → α → α) (k : Nat) : FnX Int := mkX ({ mkC (Ali h k) 70 0 0 with hint := fun i => look none [(5, some Alk)] i }) k Tryz.f27 Kh
theorem A1t (k : Nat) : C5 k = Alm (fun α x => hid x) k := by delta C5 Alm; first | (rw [A1r k]; done) | (rw [A1r k]; rfl)
def Ab2 (h : (α : Type) → α → α) (k : Nat) : H19 → Option Int := h _ (Ac (Alm h k).C k Tryz.f27 Ot Kh)
theorem Aun (k : Nat) : Du k = Ab2 (fun α x => hid x) k := by delta Du Ab2; first | (rw [A1t k]; done) | (rw [A1t k]; rfl)
def P8 (h : (α : Type) → α → α) (k : Nat) : Sig := Ab Ot Kh (Ab2 h k)
theorem Le (k : Nat) : Ht k = P8 (fun α x => hid x) k := by delta Ht P8; first | (rw [Aun k]; done) | (rw [Aun k]; rfl)
def Aad (h : (α : Type) → α → α) (k : Nat) : H32 → Option Int := h _ (Ac (Dh k).C k Tryz.f83 Na Nb)
theorem Asm (k : Nat) : Gq k = Aad (fun α x => hid x) k := by delta Gq Aad; rfl
def Xi (h : (α : Type) → α → α) (k : Nat) : Sig := Ab Na Nb (Aad h k)
theorem Xj (k : Nat) : Pr k = Xi (fun α x => hid x) k := by delta Pr Xi; first | (rw [Asm k]; done) | (rw [Asm k]; rfl)
def Acb (h : (α : Type) → α → α) (k : Nat) : H33 → Option Bool := h _ (Ac (Amj k) k Tryz.f101 Vf Vh)
theorem Auy (k : Nat) : Mh k = Acb (fun α x => hid x) k := by delta Mh Acb; rfl
def Aqt (h : (α : Type) → α → α) (k : Nat) : Sig := Ab Vf Vh (Acb h k)
theorem A8p (k : Nat) : Yn k = Aqt (fun α x => hid x) k := by delta Yn Aqt; first | (rw [Auy k]; done) | (rw [Auy k]; rfl)
def Adg (h : (α : Type) → α → α) (k : Nat) : EnvL := [(101, [Aqt h k])]
theorem Av8 (k : Nat) : Adf k = Adg (fun α x => hid x) k := by delta Adf Adg; first | (rw [A8p k]; done) | (rw [A8p k]; rfl)
def Adk (h : (α : Type) → α → α) (k : Nat) : FnX Bool := mkX ({ mkC (Adg h k) 80 0 0 with hint := fun i => look none [(4, some Adi)] i }) k Tryz.f100 I4
theorem Awa (k : Nat) : Cp k = Adk (fun α x => hid x) k := by delta Cp Adk; first | (rw [Av8 k]; done) | (rw [Av8 k]; rfl)
def Zw (h : (α : Type) → α → α) (k : Nat) : H35 → Option Bool := h _ (Ac (Adk h k).C k Tryz.f100 Mt I4)
theorem Asb (k : Nat) : Ig k = Zw (fun α x => hid x) k := by delta Ig Zw; first | (rw [Awa k]; done) | (rw [Awa k]; rfl)
def Apb (h : (α : Type) → α → α) (k : Nat) : Sig := Ab Mt I4 (Zw h k)
theorem A61 (k : Nat) : W8 k = Apb (fun α x => hid x) k := by delta W8 Apb; first | (rw [Asb k]; done) | (rw [Asb k]; rfl)
def Ami (h : (α : Type) → α → α) (k : Nat) : EnvL := [(100, [Apb h k])]
theorem A2i (k : Nat) : Amh k = Ami (fun α x => hid x) k := by delta Amh Ami; first | (rw [A61 k]; done) | (rw [A61 k]; rfl)
def Amn (h : (α : Type) → α → α) (k : Nat) : FnX Bool := mkX ({ mkC (Ami h k) 78 0 0 with hint := fun i => look none [(3, some Aml)] i }) k Tryz.f84 ftimeswalkso
theorem A2l (k : Nat) : ftimeswalks k = Amn (fun α x => hid x) k := by delta ftimeswalks Amn; first | (rw [A2i k]; done) | (rw [A2i k]; rfl)
def Acc (h : (α : Type) → α → α) (k : Nat) : H37 → Option Bool := h _ (Ac (Amn h k).C k Tryz.f84 ftimeswalksi ftimeswalkso)
theorem Auz (k : Nat) : ctimeswalks k = Acc (fun α x => hid x) k := by delta ctimeswalks Acc; first | (rw [A2l k]; done) | (rw [A2l k]; rfl)
def Aqu (h : (α : Type) → α → α) (k : Nat) : Sig := Ab ftimeswalksi ftimeswalkso (Acc h k)
theorem A8q (k : Nat) : sgtimeswalks k = Aqu (fun α x => hid x) k := by delta sgtimeswalks Aqu; first | (rw [Auz k]; done) | (rw [Auz k]; rfl)
def Alr (h : (α : Type) → α → α) (k : Nat) : EnvL := [(56, [Pp k]), (83, [Xi h k]), (84, [Aqu h k]), (85, [Apa k])]
theorem A1y (k : Nat) : Alq k = Alr (fun α x => hid x) k := by delta Alq Alr; first | (rw [Xj k, A8q k]; done) | (rw [Xj k, A8q k]; rfl)
def Alv (h : (α : Type) → α → α) (k : Nat) : FnX Bool := mkX ({ mkC (Alr h k) 101 0 0 with hint := fun i => look none [(3, some Alt)] i }) k Tryz.f51 ftimesringo
theorem A10 (k : Nat) : ftimesring k = Alv (fun α x => hid x) k := by delta ftimesring Alv; first | (rw [A1y k]; done) | (rw [A1y k]; rfl)
def Ab4 (h : (α : Type) → α → α) (k : Nat) : H39 → Option Bool := h _ (Ac (Alv h k).C k Tryz.f51 ftimesringi ftimesringo)
theorem Aup (k : Nat) : ctimesring k = Ab4 (fun α x => hid x) k := by delta ctimesring Ab4; first | (rw [A10 k]; done) | (rw [A10 k]; rfl)
def Aqo (h : (α : Type) → α → α) (k : Nat) : Sig := Ab ftimesringi ftimesringo (Ab4 h k)
theorem A8k (k : Nat) : sgtimesring k = Aqo (fun α x => hid x) k := by delta sgtimesring Aqo; first | (rw [Aup k]; done) | (rw [Aup k]; rfl)
def Ak9 (h : (α : Type) → α → α) (k : Nat) : EnvL := [(50, [Yh h k]), (27, [P8 h k]), (51, [Aqo h k])]
theorem A1o (k : Nat) : Ak8 k = Ak9 (fun α x => hid x) k := by delta Ak8 Ak9; first | (rw [Yi k, Le k, A8k k]; done) | (rw [Yi k, Le k, A8k k]; rfl)
def Alg (h : (α : Type) → α → α) (k : Nat) : FnX Bool := mkX ({ mkC (Ak9 h k) 120 0 0 with hint := fun i => look none [(4, some Alc), (9, some Ald)] i }) k Tryz.f23 Kg
theorem A1q (k : Nat) : Bu k = Alg (fun α x => hid x) k := by delta Bu Alg; first | (rw [A1o k]; done) | (rw [A1o k]; rfl)
def Ab1 (h : (α : Type) → α → α) (k : Nat) : H20 → Option Bool := h _ (Ac (Alg h k).C k Tryz.f23 Oo Kg)
theorem Aum (k : Nat) : E0 k = Ab1 (fun α x => hid x) k := by delta E0 Ab1; first | (rw [A1q k]; done) | (rw [A1q k]; rfl)
def Ye (h : (α : Type) → α → α) (k : Nat) : Sig := Ab Oo Kg (Ab1 h k)
theorem Yf (k : Nat) : Ld k = Ye (fun α x => hid x) k := by delta Ld Ye; first | (rw [Aum k]; done) | (rw [Aum k]; rfl)
def Abb (h : (α : Type) → α → α) (k : Nat) : (List (YT6)) → Option Int := h _ (Ac (fpreemptlasts k).C k Tryz.f49 fpreemptlastsi fpreemptlastso)
theorem Ato (k : Nat) : cpreemptlasts k = Abb (fun α x => hid x) k := by delta cpreemptlasts Abb; rfl
def Ap8 (h : (α : Type) → α → α) (k : Nat) : Sig := Ab fpreemptlastsi fpreemptlastso (Abb h k)
theorem A7w (k : Nat) : sgpreemptlasts k = Ap8 (fun α x => hid x) k := by delta sgpreemptlasts Ap8; first | (rw [Ato k]; done) | (rw [Ato k]; rfl)
def Ahj (h : (α : Type) → α → α) (k : Nat) : EnvL := [(49, [Ap8 h k])]
theorem Ay8 (k : Nat) : Ahi k = Ahj (fun α x => hid x) k := by delta Ahi Ahj; first | (rw [A7w k]; done) | (rw [A7w k]; rfl)
def Ahh (h : (α : Type) → α → α) (k : Nat) : Cfg := mkC (Ahj h k) 60 1 0
theorem Ay7 (k : Nat) : Tm k = Ahh (fun α x => hid x) k := by delta Tm Ahh; first | (rw [Ay8 k]; done) | (rw [Ay8 k]; rfl)
def Aa7 (h : (α : Type) → α → α) (k : Nat) : H43 → Option H44 := h _ (Ac (Ahh h k) k Tryz.f48 Nr Tn)
theorem Atl (k : Nat) : Im k = Aa7 (fun α x => hid x) k := by delta Im Aa7; first | (rw [Ay7 k]; done) | (rw [Ay7 k]; rfl)
def Ap5 (h : (α : Type) → α → α) (k : Nat) : Sig := Ab Nr Tn (Aa7 h k)
theorem A7t (k : Nat) : Xu k = Ap5 (fun α x => hid x) k := by delta Xu Ap5; first | (rw [Atl k]; done) | (rw [Atl k]; rfl)
def Ado (h : (α : Type) → α → α) (k : Nat) : EnvL := [(48, [Ap5 h k])]
theorem Awe (k : Nat) : Adn k = Ado (fun α x => hid x) k := by delta Adn Ado; first | (rw [A7t k]; done) | (rw [A7t k]; rfl)
def Adt (h : (α : Type) → α → α) (k : Nat) : FnX H47 := mkX ({ mkC (Ado h k) 67 1 0 with hint := fun i => look none [(2, some Adr)] i }) k Tryz.f79 I6
theorem Awf (k : Nat) : Cq k = Adt (fun α x => hid x) k := by delta Cq Adt; first | (rw [Awe k]; done) | (rw [Awe k]; rfl)
def Z3 (h : (α : Type) → α → α) (k : Nat) : H46 → Option H47 := h _ (Ac (Adt h k).C k Tryz.f79 I5 I6)
theorem Asc (k : Nat) : Ih k = Z3 (fun α x => hid x) k := by delta Ih Z3; first | (rw [Awf k]; done) | (rw [Awf k]; rfl)
def Apc (h : (α : Type) → α → α) (k : Nat) : Sig := Ab I5 I6 (Z3 h k)
theorem A62 (k : Nat) : W9 k = Apc (fun α x => hid x) k := by delta W9 Apc; first | (rw [Asc k]; done) | (rw [Asc k]; rfl)
def Acw (h : (α : Type) → α → α) (k : Nat) : EnvL := [(79, [Apc h k])]
theorem Avo (k : Nat) : Acv k = Acw (fun α x => hid x) k := by delta Acv Acw; first | (rw [A62 k]; done) | (rw [A62 k]; rfl)
def Acu (h : (α : Type) → α → α) (k : Nat) : Cfg := mkC (Acw h k) 57 1 0
theorem Avn (k : Nat) : Rx k = Acu (fun α x => hid x) k := by delta Rx Acu; first | (rw [Avo k]; done) | (rw [Avo k]; rfl)
def Zo (h : (α : Type) → α → α) (k : Nat) : H46 → Option H44 := h _ (Ac (Acu h k) k Tryz.f47 Mr Ry)
theorem Ar2 (k : Nat) : Lv k = Zo (fun α x => hid x) k := by delta Lv Zo; first | (rw [Avn k]; done) | (rw [Avn k]; rfl)
def Ao4 (h : (α : Type) → α → α) (k : Nat) : Sig := Ab Mr Ry (Zo h k)
theorem A6v (k : Nat) : W0 k = Ao4 (fun α x => hid x) k := by delta W0 Ao4; first | (rw [Ar2 k]; done) | (rw [Ar2 k]; rfl)
def Ahg (h : (α : Type) → α → α) (k : Nat) : EnvL := [(47, [Ao4 h k])]
theorem Ay6 (k : Nat) : Ahf k = Ahg (fun α x => hid x) k := by delta Ahf Ahg; first | (rw [A6v k]; done) | (rw [A6v k]; rfl)
def Ahe (h : (α : Type) → α → α) (k : Nat) : Cfg := mkC (Ahg h k) 56 0 0
theorem Ay5 (k : Nat) : Tl k = Ahe (fun α x => hid x) k := by delta Tl Ahe; first | (rw [Ay6 k]; done) | (rw [Ay6 k]; rfl)
def Aa8 (h : (α : Type) → α → α) (k : Nat) : (List (List (YT6))) → Option Bool := h _ (Ac (Ahe h k) k Tryz.f22 fpreempteveni fpreempteveno)
theorem Atm (k : Nat) : cpreempteven k = Aa8 (fun α x => hid x) k := by delta cpreempteven Aa8; first | (rw [Ay5 k]; done) | (rw [Ay5 k]; rfl)
def Ap6 (h : (α : Type) → α → α) (k : Nat) : Sig := Ab fpreempteveni fpreempteveno (Aa8 h k)
theorem A7u (k : Nat) : sgpreempteven k = Ap6 (fun α x => hid x) k := by delta sgpreempteven Ap6; first | (rw [Atm k]; done) | (rw [Atm k]; rfl)
def Ag8 (h : (α : Type) → α → α) (k : Nat) : EnvL := [(22, [Ap6 h k])]
theorem Ayx (k : Nat) : Ag7 k = Ag8 (fun α x => hid x) k := by delta Ag7 Ag8; first | (rw [A7u k]; done) | (rw [A7u k]; rfl)
def Ag6 (h : (α : Type) → α → α) (k : Nat) : Cfg := mkC (Ag8 h k) 54 0 0
theorem Ayw (k : Nat) : Tb k = Ag6 (fun α x => hid x) k := by delta Tb Ag6; first | (rw [Ayx k]; done) | (rw [Ayx k]; rfl)
def Aa4 (h : (α : Type) → α → α) (k : Nat) : (List (List (YT6))) → Option Bool := h _ (Ac (Ag6 h k) k Tryz.f21 Tc Td)
theorem Ati (k : Nat) : Il k = Aa4 (fun α x => hid x) k := by delta Il Aa4; first | (rw [Ayw k]; done) | (rw [Ayw k]; rfl)
def Ap3 (h : (α : Type) → α → α) (k : Nat) : Sig := Ab Tc Td (Aa4 h k)
theorem A7r (k : Nat) : Xt k = Ap3 (fun α x => hid x) k := by delta Xt Ap3; first | (rw [Ati k]; done) | (rw [Ati k]; rfl)
def Aeg (h : (α : Type) → α → α) (k : Nat) : EnvL := [(21, [Ap3 h k])]
theorem Aws (k : Nat) : Aef k = Aeg (fun α x => hid x) k := by delta Aef Aeg; first | (rw [A7r k]; done) | (rw [A7r k]; rfl)
def Aek (h : (α : Type) → α → α) (k : Nat) : FnX Int := mkX ({ mkC (Aeg h k) 67 0 0 with hint := fun i => look none [(2, some Aei)] i }) k Tryz.f52 Jd
theorem Awu (k : Nat) : Cu k = Aek (fun α x => hid x) k := by delta Cu Aek; first | (rw [Aws k]; done) | (rw [Aws k]; rfl)
def Z9 (h : (α : Type) → α → α) (k : Nat) : H48 → Option Int := h _ (Ac (Aek h k).C k Tryz.f52 M2 Jd)
theorem Ash (k : Nat) : L6 k = Z9 (fun α x => hid x) k := by delta L6 Z9; first | (rw [Awu k]; done) | (rw [Awu k]; rfl)
def Aph (h : (α : Type) → α → α) (k : Nat) : Sig := Ab M2 Jd (Z9 h k)
theorem A67 (k : Nat) : Xe k = Aph (fun α x => hid x) k := by delta Xe Aph; first | (rw [Ash k]; done) | (rw [Ash k]; rfl)
def Ac2 (h : (α : Type) → α → α) (k : Nat) : EnvL := [(52, [Aph h k])]
theorem Avu (k : Nat) : Ac1 k = Ac2 (fun α x => hid x) k := by delta Ac1 Ac2; first | (rw [A67 k]; done) | (rw [A67 k]; rfl)
def Ac0 (h : (α : Type) → α → α) (k : Nat) : Cfg := mkC (Ac2 h k) 57 0 0
theorem Avt (k : Nat) : R2 k = Ac0 (fun α x => hid x) k := by delta R2 Ac0; first | (rw [Avu k]; done) | (rw [Avu k]; rfl)
def Zq (h : (α : Type) → α → α) (k : Nat) : H48 → Option Bool := h _ (Ac (Ac0 h k) k Tryz.f24 R3 R4)
theorem Ar4 (k : Nat) : Ic k = Zq (fun α x => hid x) k := by delta Ic Zq; first | (rw [Avt k]; done) | (rw [Avt k]; rfl)
def Ao6 (h : (α : Type) → α → α) (k : Nat) : Sig := Ab R3 R4 (Zq h k)
theorem A6x (k : Nat) : W2 k = Ao6 (fun α x => hid x) k := by delta W2 Ao6; first | (rw [Ar4 k]; done) | (rw [Ar4 k]; rfl)
def Abc (h : (α : Type) → α → α) (k : Nat) : H4 → Option H4 := h _ (Ac (fpreemptnode k).C k Tryz.f25 fpreemptnodei fpreemptnodeo)
theorem Atp (k : Nat) : cpreemptnode k = Abc (fun α x => hid x) k := by delta cpreemptnode Abc; rfl
def Ap9 (h : (α : Type) → α → α) (k : Nat) : Sig := Ab fpreemptnodei fpreemptnodeo (Abc h k)
theorem A7x (k : Nat) : sgpreemptnode k = Ap9 (fun α x => hid x) k := by delta sgpreemptnode Ap9; first | (rw [Atp k]; done) | (rw [Atp k]; rfl)
def Aa6 (h : (α : Type) → α → α) (k : Nat) : H19 → Option H19 := h _ (Ac (fpreemptcopied k).C k Tryz.f26 fpreemptcopiedi fpreemptcopiedo)
theorem Atk (k : Nat) : cpreemptcopied k = Aa6 (fun α x => hid x) k := by delta cpreemptcopied Aa6; rfl
def Ap4 (h : (α : Type) → α → α) (k : Nat) : Sig := Ab fpreemptcopiedi fpreemptcopiedo (Aa6 h k)
theorem A7s (k : Nat) : sgpreemptcopied k = Ap4 (fun α x => hid x) k := by delta sgpreemptcopied Ap4; first | (rw [Atk k]; done) | (rw [Atk k]; rfl)
def Abt (h : (α : Type) → α → α) (k : Nat) : H4 → Option H56 := h _ (Ac (fsimnode k).C k Tryz.f28 fsimnodei fsimnodeo)
theorem Auf (k : Nat) : csimnode k = Abt (fun α x => hid x) k := by delta csimnode Abt; rfl
def Aqi (h : (α : Type) → α → α) (k : Nat) : Sig := Ab fsimnodei fsimnodeo (Abt h k)
theorem A8e (k : Nat) : sgsimnode k = Aqi (fun α x => hid x) k := by delta sgsimnode Aqi; first | (rw [Auf k]; done) | (rw [Auf k]; rfl)
def Abz (h : (α : Type) → α → α) (k : Nat) : H57 → Option H58 := h _ (Ac (Ak7 k) k Tryz.f40 On Ux)
theorem Auk (k : Nat) : Iv k = Abz (fun α x => hid x) k := by delta Iv Abz; rfl
def Aqm (h : (α : Type) → α → α) (k : Nat) : Sig := Ab On Ux (Abz h k)
theorem A8i (k : Nat) : Yd k = Aqm (fun α x => hid x) k := by delta Yd Aqm; first | (rw [Auk k]; done) | (rw [Auk k]; rfl)
def Akd (h : (α : Type) → α → α) (k : Nat) : EnvL := [(40, [Aqm h k])]
theorem A02 (k : Nat) : Akc k = Akd (fun α x => hid x) k := by delta Akc Akd; first | (rw [A8i k]; done) | (rw [A8i k]; rfl)
def Akb (h : (α : Type) → α → α) (k : Nat) : Cfg := mkC (Akd h k) 53 0 0
theorem A01 (k : Nat) : Uj k = Akb (fun α x => hid x) k := by delta Uj Akb; first | (rw [A02 k]; done) | (rw [A02 k]; rfl)
def Abn (h : (α : Type) → α → α) (k : Nat) : H57 → Option Bool := h _ (Ac (Akb h k) k Tryz.f77 Uk Ul)
theorem At5 (k : Nat) : Ip k = Abn (fun α x => hid x) k := by delta Ip Abn; first | (rw [A01 k]; done) | (rw [A01 k]; rfl)
def Aqf (h : (α : Type) → α → α) (k : Nat) : Sig := Ab Uk Ul (Abn h k)
theorem A8a (k : Nat) : X3 k = Aqf (fun α x => hid x) k := by delta X3 Aqf; first | (rw [At5 k]; done) | (rw [At5 k]; rfl)
def Aey (h : (α : Type) → α → α) (k : Nat) : EnvL := [(77, [Aqf h k])]
theorem Aw1 (k : Nat) : Aex k = Aey (fun α x => hid x) k := by delta Aex Aey; first | (rw [A8a k]; done) | (rw [A8a k]; rfl)
def Ae2 (h : (α : Type) → α → α) (k : Nat) : FnX Int := mkX ({ mkC (Aey h k) 67 0 0 with hint := fun i => look none [(2, some Ae0)] i }) k Tryz.f96 Jg
theorem Aw3 (k : Nat) : Cx k = Ae2 (fun α x => hid x) k := by delta Cx Ae2; first | (rw [Aw1 k]; done) | (rw [Aw1 k]; rfl)
def Aac (h : (α : Type) → α → α) (k : Nat) : (List (YT11)) → Option Int := h _ (Ac (Ae2 h k).C k Tryz.f96 M8 Jg)
theorem Ask (k : Nat) : L9 k = Aac (fun α x => hid x) k := by delta L9 Aac; first | (rw [Aw3 k]; done) | (rw [Aw3 k]; rfl)
def Apk (h : (α : Type) → α → α) (k : Nat) : Sig := Ab M8 Jg (Aac h k)
theorem A7a (k : Nat) : Xh k = Apk (fun α x => hid x) k := by delta Xh Apk; first | (rw [Ask k]; done) | (rw [Ask k]; rfl)
def Adb (h : (α : Type) → α → α) (k : Nat) : EnvL := [(96, [Apk h k])]
theorem Av3 (k : Nat) : Ada k = Adb (fun α x => hid x) k := by delta Ada Adb; first | (rw [A7a k]; done) | (rw [A7a k]; rfl)
def Ac9 (h : (α : Type) → α → α) (k : Nat) : Cfg := mkC (Adb h k) 57 0 0
theorem Av2 (k : Nat) : Sb k = Ac9 (fun α x => hid x) k := by delta Sb Ac9; first | (rw [Av3 k]; done) | (rw [Av3 k]; rfl)
def Zt (h : (α : Type) → α → α) (k : Nat) : (List (YT11)) → Option Bool := h _ (Ac (Ac9 h k) k Tryz.f76 Sc Sd)
theorem Ar8 (k : Nat) : If k = Zt (fun α x => hid x) k := by delta If Zt; first | (rw [Av2 k]; done) | (rw [Av2 k]; rfl)
def W5 (h : (α : Type) → α → α) (k : Nat) : Sig := Ab Sc Sd (Zt h k)
theorem W6 (k : Nat) : Pq k = W5 (fun α x => hid x) k := by delta Pq W5; first | (rw [Ar8 k]; done) | (rw [Ar8 k]; rfl)
def Aka (h : (α : Type) → α → α) (k : Nat) : EnvL := [(76, [W5 h k])]
theorem A00 (k : Nat) : Aj9 k = Aka (fun α x => hid x) k := by delta Aj9 Aka; first | (rw [W6 k]; done) | (rw [W6 k]; rfl)
def Aj8 (h : (α : Type) → α → α) (k : Nat) : Cfg := mkC (Aka h k) 57 1 0
theorem A0z (k : Nat) : Ui k = Aj8 (fun α x => hid x) k := by delta Ui Aj8; first | (rw [A00 k]; done) | (rw [A00 k]; rfl)
def Abp (h : (α : Type) → α → α) (k : Nat) : H60 → Option H61 := h _ (Ac (Aj8 h k) k Tryz.f42 Og Um)
theorem At8 (k : Nat) : Abm k = Abp (fun α x => hid x) k := by delta Abm Abp; first | (rw [A0z k]; done) | (rw [A0z k]; rfl)
def X4 (h : (α : Type) → α → α) (k : Nat) : Sig := Ab Og Um (Abp h k)
theorem X5 (k : Nat) : P5 k = X4 (fun α x => hid x) k := by delta P5 X4; first | (rw [At8 k]; done) | (rw [At8 k]; rfl)
def Akf (h : (α : Type) → α → α) (k : Nat) : EnvL := [(76, [W5 h k])]
theorem A05 (k : Nat) : Aj7 k = Akf (fun α x => hid x) k := by delta Aj7 Akf; first | (rw [W6 k]; done) | (rw [W6 k]; rfl)
def Ake (h : (α : Type) → α → α) (k : Nat) : Cfg := mkC (Akf h k) 57 1 1
theorem A04 (k : Nat) : Ug k = Ake (fun α x => hid x) k := by delta Ug Ake; first | (rw [A05 k]; done) | (rw [A05 k]; rfl)
def Abo (h : (α : Type) → α → α) (k : Nat) : H62 → Option H63 := h _ (Ac (Ake h k) k Tryz.f42 Of Uh)
theorem At7 (k : Nat) : Cn k = Abo (fun α x => hid x) k := by delta Cn Abo; first | (rw [A04 k]; done) | (rw [A04 k]; rfl)
def La (h : (α : Type) → α → α) (k : Nat) : Sig := Ab Of Uh (Abo h k)
theorem Gd (k : Nat) : Hs k = La (fun α x => hid x) k := by delta Hs La; first | (rw [At7 k]; done) | (rw [At7 k]; rfl)
def Ai9 (h : (α : Type) → α → α) (k : Nat) : EnvL := [(42, [X4 h k, La h k])]
theorem A0k (k : Nat) : Ai8 k = Ai9 (fun α x => hid x) k := by delta Ai8 Ai9; first | (rw [X5 k, Gd k]; done) | (rw [X5 k, Gd k]; rfl)
def Aji (h : (α : Type) → α → α) (k : Nat) : FnX H62 := mkX ({ mkC (Ai9 h k) 99 1 0 with hint := fun i => look none [(0, some Ajc), (2, some Ajd)] i }) k Tryz.f30 J5
theorem A0o (k : Nat) : Bs k = Aji (fun α x => hid x) k := by delta Bs Aji; first | (rw [A0k k]; done) | (rw [A0k k]; rfl)
def Abh (h : (α : Type) → α → α) (k : Nat) : H66 → Option H62 := h _ (Ac (Aji h k).C k Tryz.f30 Oa J5)
theorem Atx (k : Nat) : Fq k = Abh (fun α x => hid x) k := by delta Fq Abh; first | (rw [A0o k]; done) | (rw [A0o k]; rfl)
def Aqc (h : (α : Type) → α → α) (k : Nat) : Sig := Ab Oa J5 (Abh h k)
theorem A77 (k : Nat) : Pz k = Aqc (fun α x => hid x) k := by delta Pz Aqc; first | (rw [Atx k]; done) | (rw [Atx k]; rfl)
def Abv (h : (α : Type) → α → α) (k : Nat) : ((Int) × (List (YT11))) → Option ((Int) × (List (YT11))) := h _ (Ac (Di k).C k Tryz.f64 Ok Ol)
theorem Auh (k : Nat) : It k = Abv (fun α x => hid x) k := by delta It Abv; rfl
def Aqk (h : (α : Type) → α → α) (k : Nat) : Sig := Ab Ok Ol (Abv h k)
theorem A8g (k : Nat) : Yb k = Aqk (fun α x => hid x) k := by delta Yb Aqk; first | (rw [Auh k]; done) | (rw [Auh k]; rfl)
def Aby (h : (α : Type) → α → α) (k : Nat) : ((Int) × (List (YT11))) → Option ((Bool) × (List (YT11))) := h _ (Ac (Ak6 k) k Tryz.f40 Uv Uw)
theorem Auj (k : Nat) : Fs k = Aby (fun α x => hid x) k := by delta Fs Aby; rfl
def P6 (h : (α : Type) → α → α) (k : Nat) : Sig := Ab Uv Uw (Aby h k)
theorem Lc (k : Nat) : Lb k = P6 (fun α x => hid x) k := by delta Lb P6; first | (rw [Auj k]; done) | (rw [Auj k]; rfl)
def Ak0 (h : (α : Type) → α → α) (k : Nat) : EnvL := [(40, [P6 h k])]
theorem A1k (k : Nat) : Akz k = Ak0 (fun α x => hid x) k := by delta Akz Ak0; first | (rw [Lc k]; done) | (rw [Lc k]; rfl)
def Ak5 (h : (α : Type) → α → α) (k : Nat) : FnX (List (YT11)) := mkX ({ mkC (Ak0 h k) 123 0 1 with hint := fun i => look none [(0, some Ak2)] i }) k Tryz.f65 Kd
theorem A1l (k : Nat) : C4 k = Ak5 (fun α x => hid x) k := by delta C4 Ak5; first | (rw [A1k k]; done) | (rw [A1k k]; rfl)
def Abw (h : (α : Type) → α → α) (k : Nat) : H68 → Option (List (YT11)) := h _ (Ac (Ak5 h k).C k Tryz.f65 Om Kd)
theorem Aui (k : Nat) : Iu k = Abw (fun α x => hid x) k := by delta Iu Abw; first | (rw [A1l k]; done) | (rw [A1l k]; rfl)
def Aql (h : (α : Type) → α → α) (k : Nat) : Sig := Ab Om Kd (Abw h k)
theorem A8h (k : Nat) : Yc k = Aql (fun α x => hid x) k := by delta Yc Aql; first | (rw [Aui k]; done) | (rw [Aui k]; rfl)
def Aje (h : (α : Type) → α → α) (k : Nat) : EnvL := [(42, [X4 h k, La h k])]
theorem A0m (k : Nat) : Ai1 k = Aje (fun α x => hid x) k := by delta Ai1 Aje; first | (rw [X5 k, Gd k]; done) | (rw [X5 k, Gd k]; rfl)
def Ajf (h : (α : Type) → α → α) (k : Nat) : FnX H62 := mkX ({ mkC (Aje h k) 99 1 1 with hint := fun i => look none [(0, some Ai4), (2, some Ai5)] i }) k Tryz.f30 J4
theorem A0n (k : Nat) : Bt k = Ajf (fun α x => hid x) k := by delta Bt Ajf; first | (rw [A0m k]; done) | (rw [A0m k]; rfl)
def Abg (h : (α : Type) → α → α) (k : Nat) : H64 → Option H62 := h _ (Ac (Ajf h k).C k Tryz.f30 N8 J4)
theorem Atw (k : Nat) : Gu k = Abg (fun α x => hid x) k := by delta Gu Abg; first | (rw [A0n k]; done) | (rw [A0n k]; rfl)
def Xw (h : (α : Type) → α → α) (k : Nat) : Sig := Ab N8 J4 (Abg h k)
theorem Xx (k : Nat) : P1 k = Xw (fun α x => hid x) k := by delta P1 Xw; first | (rw [Atw k]; done) | (rw [Atw k]; rfl)
def Ajk (h : (α : Type) → α → α) (k : Nat) : EnvL := [(64, [Aqk h k]), (65, [Aql h k]), (42, [La h k]), (30, [Xw h k])]
theorem A0p (k : Nat) : Ajj k = Ajk (fun α x => hid x) k := by delta Ajj Ajk; first | (rw [A8g k, A8h k, Gd k, Xx k]; done) | (rw [A8g k, A8h k, Gd k, Xx k]; rfl)
def Ajv (h : (α : Type) → α → α) (k : Nat) : FnX H62 := mkX ({ mkC (Ajk h k) 194 1 1 with hint := fun i => look none [(1, some Ajo), (4, some Ajq), (11, some Ajp)] i, ef := [(72, (([0], [0, 1]), ([], [120])))], ld := [(61, 9999), (62, 9999), (63, 0), (66, 9999), (67, 9999), (68, 9999), (69, 0)] }) k Tryz.f31 J8
theorem A0q (k : Nat) : Bc k = Ajv (fun α x => hid x) k := by delta Bc Ajv; first | (rw [A0p k]; done) | (rw [A0p k]; rfl)
def Abi (h : (α : Type) → α → α) (k : Nat) : H64 → Option H62 := h _ (Ac (Ajv h k).C k Tryz.f31 Ob J8)
theorem Atz (k : Nat) : Gv k = Abi (fun α x => hid x) k := by delta Gv Abi; first | (rw [A0q k]; done) | (rw [A0q k]; rfl)
def Aqd (h : (α : Type) → α → α) (k : Nat) : Sig := Ab Ob J8 (Abi h k)
theorem A78 (k : Nat) : P2 k = Aqd (fun α x => hid x) k := by delta P2 Aqd; first | (rw [Atz k]; done) | (rw [Atz k]; rfl)
def Aks (h : (α : Type) → α → α) (k : Nat) : EnvL := [(23, [Ye h k]), (28, [Aqi h k]), (29, [sgsimcopied k]), (27, [P8 h k]), (30, [Aqc h k]), (31, [Aqd h k])]
theorem A1c (k : Nat) : Akr k = Aks (fun α x => hid x) k := by delta Akr Aks; first | (rw [Yf k, A8e k, Le k, A77 k, A78 k]; done) | (rw [Yf k, A8e k, Le k, A77 k, A78 k]; rfl)
def Akq (h : (α : Type) → α → α) (k : Nat) : Cfg := { mkC (Aks h k) 140 0 0 with ef := [(44, (([66], [94]), ([], [92])))], ld := [(23, 9999), (24, 9999), (25, 66), (26, 9999), (27, 51), (29, 9999), (30, 9999), (31, 66), (34, 9999), (35, 9999), (36, 66), (39, 9999), (40, 9999), (41, 66)] }
theorem A1b (k : Nat) : Uo k = Akq (fun α x => hid x) k := by delta Uo Akq; first | (rw [A1c k]; done) | (rw [A1c k]; rfl)
def Abr (h : (α : Type) → α → α) (k : Nat) : H20 → Option H64 := h _ (Ac (Akq h k) k Tryz.f7 Up Uq)
theorem Aua (k : Nat) : Ir k = Abr (fun α x => hid x) k := by delta Ir Abr; first | (rw [A1b k]; done) | (rw [A1b k]; rfl)
def Aqh (h : (α : Type) → α → α) (k : Nat) : Sig := Ab Up Uq (Abr h k)
theorem A8d (k : Nat) : X7 k = Aqh (fun α x => hid x) k := by delta X7 Aqh; first | (rw [Aua k]; done) | (rw [Aua k]; rfl)
def Ag5 (h : (α : Type) → α → α) (k : Nat) : EnvL := [(23, [Ye h k]), (24, [Ao6 h k]), (25, [Ap9 h k]), (26, [Ap4 h k]), (27, [P8 h k]), (7, [Aqh h k])]
theorem Ayv (k : Nat) : Ag4 k = Ag5 (fun α x => hid x) k := by delta Ag4 Ag5; first | (rw [Yf k, A6x k, A7x k, A7s k, Le k, A8d k]; done) | (rw [Yf k, A6x k, A7x k, A7s k, Le k, A8d k]; rfl)
def Ag3 (h : (α : Type) → α → α) (k : Nat) : Cfg := { mkC (Ag5 h k) 130 0 0 with ef := [(41, (([], []), ([89], [89])))], ld := [(20, 50), (22, 51), (24, 51), (26, 9999), (27, 50), (34, 9999), (35, 9999), (36, 79), (38, 9999), (39, 9999), (40, 79), (53, 9999), (54, 9999), (55, 79), (56, 9999), (57, 51), (59, 9999), (60, 9999), (61, 79), (64, 9999), (65, 9999), (66, 79), (69, 9999), (70, 9999), (71, 79), (75, 9999), (76, 9999), (77, 79), (79, 9999), (80, 9999)], sr := [(80, 79)] }
theorem Ayu (k : Nat) : Ta k = Ag3 (fun α x => hid x) k := by delta Ta Ag3; first | (rw [Ayv k]; done) | (rw [Ayv k]; rfl)
def Aa5 (h : (α : Type) → α → α) (k : Nat) : H20 → Option H70 := h _ (E2 (Ag3 h k) k Tryz.f6 Tf Tg Th)
theorem Bbl (k : Nat) : Ej k = Aa5 (fun α x => hid x) k := by delta Ej Aa5; first | (rw [Ayu k]; done) | (rw [Ayu k]; rfl)
def Acf (h : (α : Type) → α → α) (k : Nat) : H73 → Option ((Bool) × (List Int)) := h _ (Ac (Amx k) k Tryz.f88 Oy Vp)
theorem Au6 (k : Nat) : Mj k = Acf (fun α x => hid x) k := by delta Mj Acf; rfl
def Aqw (h : (α : Type) → α → α) (k : Nat) : Sig := Ab Oy Vp (Acf h k)
theorem A8s (k : Nat) : Yr k = Aqw (fun α x => hid x) k := by delta Yr Aqw; first | (rw [Au6 k]; done) | (rw [Au6 k]; rfl)
def Adz (h : (α : Type) → α → α) (k : Nat) : EnvL := [(88, [Aqw h k])]
theorem Awh (k : Nat) : Ady k = Adz (fun α x => hid x) k := by delta Ady Adz; first | (rw [A8s k]; done) | (rw [A8s k]; rfl)
def Ad5 (h : (α : Type) → α → α) (k : Nat) : FnX ((Int) × (List Int)) := mkX ({ mkC (Adz h k) 67 1 0 with hint := fun i => look none [(2, some Ad1)] i }) k Tryz.f87 Ja
theorem Awl (k : Nat) : Cr k = Ad5 (fun α x => hid x) k := by delta Cr Ad5; first | (rw [Awh k]; done) | (rw [Awh k]; rfl)
def Z5 (h : (α : Type) → α → α) (k : Nat) : H75 → Option ((Int) × (List Int)) := h _ (Ac (Ad5 h k).C k Tryz.f87 I9 Ja)
theorem Ase (k : Nat) : Ly k = Z5 (fun α x => hid x) k := by delta Ly Z5; first | (rw [Awl k]; done) | (rw [Awl k]; rfl)
def Ape (h : (α : Type) → α → α) (k : Nat) : Sig := Ab I9 Ja (Z5 h k)
theorem A64 (k : Nat) : Xa k = Ape (fun α x => hid x) k := by delta Xa Ape; first | (rw [Ase k]; done) | (rw [Ase k]; rfl)
def Amw (h : (α : Type) → α → α) (k : Nat) : EnvL := [(87, [Ape h k])]
theorem A2t (k : Nat) : Amv k = Amw (fun α x => hid x) k := by delta Amv Amw; first | (rw [A64 k]; done) | (rw [A64 k]; rfl)
def Amu (h : (α : Type) → α → α) (k : Nat) : Cfg := mkC (Amw h k) 57 0 0
theorem A2s (k : Nat) : Vo k = Amu (fun α x => hid x) k := by delta Vo Amu; first | (rw [A2t k]; done) | (rw [A2t k]; rfl)
def Acg (h : (α : Type) → α → α) (k : Nat) : H76 → Option Int := h _ (Ac (Amu h k) k Tryz.f66 Vq Vr)
theorem Au8 (k : Nat) : Iy k = Acg (fun α x => hid x) k := by delta Iy Acg; first | (rw [A2s k]; done) | (rw [A2s k]; rfl)
def Aqx (h : (α : Type) → α → α) (k : Nat) : Sig := Ab Vq Vr (Acg h k)
theorem A8t (k : Nat) : Qa k = Aqx (fun α x => hid x) k := by delta Qa Aqx; first | (rw [Au8 k]; done) | (rw [Au8 k]; rfl)
def Aba (h : (α : Type) → α → α) (k : Nat) : (List (YT6)) → Option Int := h _ (Ac (Ahk k).C k Tryz.f49 To Ns)
theorem Atn (k : Nat) : Aa9 k = Aba (fun α x => hid x) k := by delta Aa9 Aba; rfl
def Ap7 (h : (α : Type) → α → α) (k : Nat) : Sig := Ab To Ns (Aba h k)
theorem A7v (k : Nat) : Xv k = Ap7 (fun α x => hid x) k := by delta Xv Ap7; first | (rw [Atn k]; done) | (rw [Atn k]; rfl)
def Afz (h : (α : Type) → α → α) (k : Nat) : EnvL := [(49, [Ap7 h k])]
theorem Ax4 (k : Nat) : Afy k = Afz (fun α x => hid x) k := by delta Afy Afz; first | (rw [A7v k]; done) | (rw [A7v k]; rfl)
def Af0 (h : (α : Type) → α → α) (k : Nat) : FnX H82 := mkX ({ mkC (Afz h k) 140 2 3 with hint := fun i => look none [(3, some Ax7), (7, some Ax8), (16, some Ax5), (20, some Ax6)] i }) k Tryz.f89 Ji
theorem Ax9 (k : Nat) : Sv k = Af0 (fun α x => hid x) k := by delta Sv Af0; first | (rw [Ax4 k]; done) | (rw [Ax4 k]; rfl)
def Aaq (h : (α : Type) → α → α) (k : Nat) : H81 → Option H82 := h _ (Ac (Af0 h k).C k Tryz.f89 Ng Ji)
theorem As4 (k : Nat) : Aap k = Aaq (fun α x => hid x) k := by delta Aap Aaq; first | (rw [Ax9 k]; done) | (rw [Ax9 k]; rfl)
def Apt (h : (α : Type) → α → α) (k : Nat) : Sig := Ab Ng Ji (Aaq h k)
theorem A7h (k : Nat) : Ps k = Apt (fun α x => hid x) k := by delta Ps Apt; first | (rw [As4 k]; done) | (rw [As4 k]; rfl)
def Ade (h : (α : Type) → α → α) (k : Nat) : EnvL := [(83, [Xi h k])]
theorem Av6 (k : Nat) : Add k = Ade (fun α x => hid x) k := by delta Add Ade; first | (rw [Xj k]; done) | (rw [Xj k]; rfl)
def Adc (h : (α : Type) → α → α) (k : Nat) : Cfg := mkC (Ade h k) 57 0 0
theorem Av5 (k : Nat) : Se k = Adc (fun α x => hid x) k := by delta Se Adc; first | (rw [Av6 k]; done) | (rw [Av6 k]; rfl)
def Zu (h : (α : Type) → α → α) (k : Nat) : H32 → Option Bool := h _ (Ac (Adc h k) k Tryz.f95 Sf Sg)
theorem Ar9 (k : Nat) : Lx k = Zu (fun α x => hid x) k := by delta Lx Zu; first | (rw [Av5 k]; done) | (rw [Av5 k]; rfl)
def Ao9 (h : (α : Type) → α → α) (k : Nat) : Sig := Ab Sf Sg (Zu h k)
theorem A60 (k : Nat) : W7 k = Ao9 (fun α x => hid x) k := by delta W7 Ao9; first | (rw [Ar9 k]; done) | (rw [Ar9 k]; rfl)
def Amt (h : (α : Type) → α → α) (k : Nat) : EnvL := [(95, [Ao9 h k])]
theorem A2p (k : Nat) : Ams k = Amt (fun α x => hid x) k := by delta Ams Amt; first | (rw [A60 k]; done) | (rw [A60 k]; rfl)
def Amr (h : (α : Type) → α → α) (k : Nat) : Cfg := mkC (Amt h k) 56 1 0
theorem A2o (k : Nat) : Vk k = Amr (fun α x => hid x) k := by delta Vk Amr; first | (rw [A2p k]; done) | (rw [A2p k]; rfl)
def Acd (h : (α : Type) → α → α) (k : Nat) : H73 → Option ((Bool) × (List Int)) := h _ (Ac (Amr h k) k Tryz.f94 Ox Vl)
theorem Au3 (k : Nat) : Mi k = Acd (fun α x => hid x) k := by delta Mi Acd; first | (rw [A2o k]; done) | (rw [A2o k]; rfl)
def Aqv (h : (α : Type) → α → α) (k : Nat) : Sig := Ab Ox Vl (Acd h k)
theorem A8r (k : Nat) : Yo k = Aqv (fun α x => hid x) k := by delta Yo Aqv; first | (rw [Au3 k]; done) | (rw [Au3 k]; rfl)
def Ad2 (h : (α : Type) → α → α) (k : Nat) : EnvL := [(94, [Aqv h k])]
theorem Awj (k : Nat) : Adu k = Ad2 (fun α x => hid x) k := by delta Adu Ad2; first | (rw [A8r k]; done) | (rw [A8r k]; rfl)
def Ad3 (h : (α : Type) → α → α) (k : Nat) : FnX ((Int) × (List Int)) := mkX ({ mkC (Ad2 h k) 67 1 0 with hint := fun i => look none [(2, some Adw)] i }) k Tryz.f87 I8
theorem Awk (k : Nat) : Cs k = Ad3 (fun α x => hid x) k := by delta Cs Ad3; first | (rw [Awj k]; done) | (rw [Awj k]; rfl)
def Z4 (h : (α : Type) → α → α) (k : Nat) : H75 → Option ((Int) × (List Int)) := h _ (Ac (Ad3 h k).C k Tryz.f87 I7 I8)
theorem Asd (k : Nat) : Lz k = Z4 (fun α x => hid x) k := by delta Lz Z4; first | (rw [Awk k]; done) | (rw [Awk k]; rfl)
def Apd (h : (α : Type) → α → α) (k : Nat) : Sig := Ab I7 I8 (Z4 h k)
theorem A63 (k : Nat) : Xb k = Apd (fun α x => hid x) k := by delta Xb Apd; first | (rw [Asd k]; done) | (rw [Asd k]; rfl)
def Amq (h : (α : Type) → α → α) (k : Nat) : EnvL := [(87, [Apd h k])]
theorem A2n (k : Nat) : Amp k = Amq (fun α x => hid x) k := by delta Amp Amq; first | (rw [A63 k]; done) | (rw [A63 k]; rfl)
def Amo (h : (α : Type) → α → α) (k : Nat) : Cfg := mkC (Amq h k) 57 0 0
theorem A2m (k : Nat) : Vj k = Amo (fun α x => hid x) k := by delta Vj Amo; first | (rw [A2n k]; done) | (rw [A2n k]; rfl)
def Ace (h : (α : Type) → α → α) (k : Nat) : H76 → Option Int := h _ (Ac (Amo h k) k Tryz.f73 Vm Vn)
theorem Au5 (k : Nat) : Ix k = Ace (fun α x => hid x) k := by delta Ix Ace; first | (rw [A2m k]; done) | (rw [A2m k]; rfl)
def Yp (h : (α : Type) → α → α) (k : Nat) : Sig := Ab Vm Vn (Ace h k)
theorem Yq (k : Nat) : P9 k = Yp (fun α x => hid x) k := by delta P9 Yp; first | (rw [Au5 k]; done) | (rw [Au5 k]; rfl)
def Agh (h : (α : Type) → α → α) (k : Nat) : EnvL := [(73, [Yp h k])]
theorem Ayl (k : Nat) : Agg k = Agh (fun α x => hid x) k := by delta Agg Agh; first | (rw [Yq k]; done) | (rw [Yq k]; rfl)
def Agf (h : (α : Type) → α → α) (k : Nat) : Cfg := mkC (Agh h k) 80 2 3
theorem Ayk (k : Nat) : S2 k = Agf (fun α x => hid x) k := by delta S2 Agf; first | (rw [Ayl k]; done) | (rw [Ayl k]; rfl)
def Aaz (h : (α : Type) → α → α) (k : Nat) : H83 → Option H84 := h _ (Ac (Agf h k) k Tryz.f93 Nl S4)
theorem Atd (k : Nat) : Aay k = Aaz (fun α x => hid x) k := by delta Aay Aaz; first | (rw [Ayk k]; done) | (rw [Ayk k]; rfl)
def Xp (h : (α : Type) → α → α) (k : Nat) : Sig := Ab Nl S4 (Aaz h k)
theorem Xq (k : Nat) : Pw k = Xp (fun α x => hid x) k := by delta Pw Xp; first | (rw [Atd k]; done) | (rw [Atd k]; rfl)
def Aan (h : (α : Type) → α → α) (k : Nat) : H85 → Option H86 := h _ (Ac (Afu k) k Tryz.f90 Nf Su)
theorem As1 (k : Nat) : Aam k = Aan (fun α x => hid x) k := by delta Aam Aan; rfl
def Apr (h : (α : Type) → α → α) (k : Nat) : Sig := Ab Nf Su (Aan h k)
theorem A7f (k : Nat) : Xm k = Apr (fun α x => hid x) k := by delta Xm Apr; first | (rw [As1 k]; done) | (rw [As1 k]; rfl)
def Agb (h : (α : Type) → α → α) (k : Nat) : EnvL := [(93, [Xp h k]), (90, [Apr h k])]
theorem Ayf (k : Nat) : Aga k = Agb (fun α x => hid x) k := by delta Aga Agb; first | (rw [Xq k, A7f k]; done) | (rw [Xq k, A7f k]; rfl)
def Age (h : (α : Type) → α → α) (k : Nat) : FnX H89 := mkX ({ mkC (Agb h k) 82 5 3 with hint := fun i => look none [(1, some Ayg)] i }) k Tryz.f70 Jm
theorem Ayj (k : Nat) : S0 k = Age (fun α x => hid x) k := by delta S0 Age; first | (rw [Ayf k]; done) | (rw [Ayf k]; rfl)
def Aax (h : (α : Type) → α → α) (k : Nat) : H88 → Option H89 := h _ (Ac (Age h k).C k Tryz.f70 Nk Jm)
theorem Atb (k : Nat) : Aav k = Aax (fun α x => hid x) k := by delta Aav Aax; first | (rw [Ayj k]; done) | (rw [Ayj k]; rfl)
def Apy (h : (α : Type) → α → α) (k : Nat) : Sig := Ab Nk Jm (Aax h k)
theorem A7m (k : Nat) : Pv k = Apy (fun α x => hid x) k := by delta Pv Apy; first | (rw [Atb k]; done) | (rw [Atb k]; rfl)
def Aa1 (h : (α : Type) → α → α) (k : Nat) : H93 → Option H94 := h _ (Ac (Agk k) k Tryz.f92 Nm S6)
theorem Ate (k : Nat) : Aa0 k = Aa1 (fun α x => hid x) k := by delta Aa0 Aa1; rfl
def Apz (h : (α : Type) → α → α) (k : Nat) : Sig := Ab Nm S6 (Aa1 h k)
theorem A7n (k : Nat) : Xr k = Apz (fun α x => hid x) k := by delta Xr Apz; first | (rw [Ate k]; done) | (rw [Ate k]; rfl)
def Aeb (h : (α : Type) → α → α) (k : Nat) : EnvL := [(92, [Apz h k])]
theorem Awo (k : Nat) : Ad6 k = Aeb (fun α x => hid x) k := by delta Ad6 Aeb; first | (rw [A7n k]; done) | (rw [A7n k]; rfl)
def Aec (h : (α : Type) → α → α) (k : Nat) : FnX H83 := mkX ({ mkC (Aeb h k) 67 3 3 with hint := fun i => look none [(2, some Awm)] i }) k Tryz.f91 Jb
theorem Awp (k : Nat) : Sl k = Aec (fun α x => hid x) k := by delta Sl Aec; first | (rw [Awo k]; done) | (rw [Awo k]; rfl)
def Z7 (h : (α : Type) → α → α) (k : Nat) : H96 → Option H83 := h _ (Ac (Aec h k).C k Tryz.f91 My Jb)
theorem Asf (k : Nat) : Z6 k = Z7 (fun α x => hid x) k := by delta Z6 Z7; first | (rw [Awp k]; done) | (rw [Awp k]; rfl)
def Apf (h : (α : Type) → α → α) (k : Nat) : Sig := Ab My Jb (Z7 h k)
theorem A65 (k : Nat) : Xd k = Apf (fun α x => hid x) k := by delta Xd Apf; first | (rw [Asf k]; done) | (rw [Asf k]; rfl)
def Agj (h : (α : Type) → α → α) (k : Nat) : EnvL := [(91, [Apf h k])]
theorem Aym (k : Nat) : Agi k = Agj (fun α x => hid x) k := by delta Agi Agj; first | (rw [A65 k]; done) | (rw [A65 k]; rfl)
def Agl (h : (α : Type) → α → α) (k : Nat) : FnX H93 := mkX ({ mkC (Agj h k) 85 2 3 with hint := fun i => look none [(2, some Ayn), (5, some Ayo)] i }) k Tryz.f68 Jn
theorem Ayp (k : Nat) : S5 k = Agl (fun α x => hid x) k := by delta S5 Agl; first | (rw [Aym k]; done) | (rw [Aym k]; rfl)
def Aa2 (h : (α : Type) → α → α) (k : Nat) : H81 → Option H93 := h _ (Ac (Agl h k).C k Tryz.f68 Nn Jn)
theorem Atg (k : Nat) : Ri k = Aa2 (fun α x => hid x) k := by delta Ri Aa2; first | (rw [Ayp k]; done) | (rw [Ayp k]; rfl)
def Ap0 (h : (α : Type) → α → α) (k : Nat) : Sig := Ab Nn Jn (Aa2 h k)
theorem A7o (k : Nat) : Px k = Ap0 (fun α x => hid x) k := by delta Px Ap0; first | (rw [Atg k]; done) | (rw [Atg k]; rfl)
def Abk (h : (α : Type) → α → α) (k : Nat) : H62 → Option H63 := h _ (Ac (Ajz k) k Tryz.f37 Oe Ue)
theorem At2 (k : Nat) : Io k = Abk (fun α x => hid x) k := by delta Io Abk; rfl
def Xz (h : (α : Type) → α → α) (k : Nat) : Sig := Ab Oe Ue (Abk h k)
theorem X0 (k : Nat) : P3 k = Xz (fun α x => hid x) k := by delta P3 Xz; first | (rw [At2 k]; done) | (rw [At2 k]; rfl)
def Aj2 (h : (α : Type) → α → α) (k : Nat) : EnvL := [(40, [P6 h k])]
theorem A0v (k : Nat) : Aj1 k = Aj2 (fun α x => hid x) k := by delta Aj1 Aj2; first | (rw [Lc k]; done) | (rw [Lc k]; rfl)
def Aj6 (h : (α : Type) → α → α) (k : Nat) : FnX H102 := mkX2 ({ mkC (Aj2 h k) 90 1 1 with hint := fun i => look none [(2, some Aj4)] i, ef := [(22, (([], [0]), ([], [])))], ld := [(35, 9999), (36, 9999)] }) k Tryz.f74 Fy Hd
theorem A0x (k : Nat) : C2 k = Aj6 (fun α x => hid x) k := by delta C2 Aj6; first | (rw [A0v k]; done) | (rw [A0v k]; rfl)
def Abl (h : (α : Type) → α → α) (k : Nat) : H101 → Option H102 := h _ (E2 (Aj6 h k).C k Tryz.f74 Fx Fy Hd)
theorem At4 (k : Nat) : Gw k = Abl (fun α x => hid x) k := by delta Gw Abl; first | (rw [A0x k]; done) | (rw [A0x k]; rfl)
def X1 (h : (α : Type) → α → α) (k : Nat) : Sig := ⟨Fx, Fy, F4 Fx.tys Fy.tys Hd (Abl h k)⟩
theorem X2 (k : Nat) : P4 k = X1 (fun α x => hid x) k := by delta P4 X1; first | (rw [At4 k]; done) | (rw [At4 k]; rfl)
def Abs (h : (α : Type) → α → α) (k : Nat) : ((Int) × (Int) × (Int)) → Option Int := h _ (Ac (Akt k) k Tryz.f75 fsimcolouri fsimcolouro)
theorem Auc (k : Nat) : csimcolour k = Abs (fun α x => hid x) k := by delta csimcolour Abs; rfl
def X8 (h : (α : Type) → α → α) (k : Nat) : Sig := Ab fsimcolouri fsimcolouro (Abs h k)
theorem X9 (k : Nat) : sgsimcolour k = X8 (fun α x => hid x) k := by delta sgsimcolour X8; first | (rw [Auc k]; done) | (rw [Auc k]; rfl)
def Ajy (h : (α : Type) → α → α) (k : Nat) : EnvL := [(73, [Yp h k]), (74, [X1 h k]), (75, [X8 h k])]
theorem A0s (k : Nat) : Ajx k = Ajy (fun α x => hid x) k := by delta Ajx Ajy; first | (rw [Yq k, X2 k, X9 k]; done) | (rw [Yq k, X2 k, X9 k]; rfl)
def Ajw (h : (α : Type) → α → α) (k : Nat) : Cfg := { mkC (Ajy h k) 105 1 1 with ld := [(40, 9999)], sr := [(7, 55)] }
theorem A0r (k : Nat) : Uc k = Ajw (fun α x => hid x) k := by delta Uc Ajw; first | (rw [A0s k]; done) | (rw [A0s k]; rfl)
def Abj (h : (α : Type) → α → α) (k : Nat) : H103 → Option H64 := h _ (Ac (Ajw h k) k Tryz.f38 Od Ud)
theorem At0 (k : Nat) : In k = Abj (fun α x => hid x) k := by delta In Abj; first | (rw [A0r k]; done) | (rw [A0r k]; rfl)
def Aqe (h : (α : Type) → α → α) (k : Nat) : Sig := Ab Od Ud (Abj h k)
theorem A79 (k : Nat) : Xy k = Aqe (fun α x => hid x) k := by delta Xy Aqe; first | (rw [At0 k]; done) | (rw [At0 k]; rfl)
def Akh (h : (α : Type) → α → α) (k : Nat) : EnvL := [(74, [X1 h k]), (75, [X8 h k])]
theorem A06 (k : Nat) : Akg k = Akh (fun α x => hid x) k := by delta Akg Akh; first | (rw [X2 k, X9 k]; done) | (rw [X2 k, X9 k]; rfl)
def Akl (h : (α : Type) → α → α) (k : Nat) : FnX H64 := mkX ({ mkC (Akh h k) 95 1 1 with hint := fun i => look none [(5, some Akj)] i }) k Tryz.f39 Kb
theorem A08 (k : Nat) : C3 k = Akl (fun α x => hid x) k := by delta C3 Akl; first | (rw [A06 k]; done) | (rw [A06 k]; rfl)
def Abq (h : (α : Type) → α → α) (k : Nat) : H105 → Option H64 := h _ (Ac (Akl h k).C k Tryz.f39 Ka Kb)
theorem At9 (k : Nat) : Iq k = Abq (fun α x => hid x) k := by delta Iq Abq; first | (rw [A08 k]; done) | (rw [A08 k]; rfl)
def Aqg (h : (α : Type) → α → α) (k : Nat) : Sig := Ab Ka Kb (Abq h k)
theorem A8b (k : Nat) : X6 k = Aqg (fun α x => hid x) k := by delta X6 Aqg; first | (rw [At9 k]; done) | (rw [At9 k]; rfl)
def Ain (h : (α : Type) → α → α) (k : Nat) : EnvL := [(37, [Xz h k]), (38, [Aqe h k]), (39, [Aqg h k])]
theorem A0d (k : Nat) : Aim k = Ain (fun α x => hid x) k := by delta Aim Ain; first | (rw [X0 k, A79 k, A8b k]; done) | (rw [X0 k, A79 k, A8b k]; rfl)
def Ait (h : (α : Type) → α → α) (k : Nat) : FnX H108 := mkX ({ mkC (Ain h k) 99 1 1 with hint := fun i => look none [(5, some Air), (10, some Aiq)] i, ef := [(26, (([0], [0]), ([], []))), (45, (([0], [0]), ([], [])))], ld := [(22, 9999), (23, 2), (25, 53), (29, 9999), (41, 9999), (42, 2), (44, 55), (48, 9999)], sr := [(29, 2), (48, 2)] }) k Tryz.f13 J1
theorem A0g (k : Nat) : B4 k = Ait (fun α x => hid x) k := by delta B4 Ait; first | (rw [A0d k]; done) | (rw [A0d k]; rfl)
def Abd (h : (α : Type) → α → α) (k : Nat) : H62 → Option H108 := h _ (Ac (Ait h k).C k Tryz.f13 J0 J1)
theorem Ats (k : Nat) : Fo k = Abd (fun α x => hid x) k := by delta Fo Abd; first | (rw [A0g k]; done) | (rw [A0g k]; rfl)
def Aqa (h : (α : Type) → α → α) (k : Nat) : Sig := Ab J0 J1 (Abd h k)
theorem A75 (k : Nat) : Py k = Aqa (fun α x => hid x) k := by delta Py Aqa; first | (rw [Ats k]; done) | (rw [Ats k]; rfl)
def Aas (h : (α : Type) → α → α) (k : Nat) : H83 → Option H81 := h _ (Ac (Af3 k) k Tryz.f71 Nh Sy)
theorem As5 (k : Nat) : Aar k = Aas (fun α x => hid x) k := by delta Aar Aas; rfl
def Apu (h : (α : Type) → α → α) (k : Nat) : Sig := Ab Nh Sy (Aas h k)
theorem A7i (k : Nat) : Xn k = Apu (fun α x => hid x) k := by delta Xn Apu; first | (rw [As5 k]; done) | (rw [As5 k]; rfl)
def Agc (h : (α : Type) → α → α) (k : Nat) : EnvL := [(93, [Xp h k]), (71, [Apu h k])]
theorem Ayh (k : Nat) : Af9 k = Agc (fun α x => hid x) k := by delta Af9 Agc; first | (rw [Xq k, A7i k]; done) | (rw [Xq k, A7i k]; rfl)
def Agd (h : (α : Type) → α → α) (k : Nat) : FnX H81 := mkX ({ mkC (Agc h k) 82 3 3 with hint := fun i => look none [(1, some Aye)] i }) k Tryz.f70 Jl
theorem Ayi (k : Nat) : S1 k = Agd (fun α x => hid x) k := by delta S1 Agd; first | (rw [Ayh k]; done) | (rw [Ayh k]; rfl)
def Aaw (h : (α : Type) → α → α) (k : Nat) : H110 → Option H81 := h _ (Ac (Agd h k).C k Tryz.f70 Nj Jl)
theorem Ata (k : Nat) : Rh k = Aaw (fun α x => hid x) k := by delta Rh Aaw; first | (rw [Ayi k]; done) | (rw [Ayi k]; rfl)
def Apx (h : (α : Type) → α → α) (k : Nat) : Sig := Ab Nj Jl (Aaw h k)
theorem A7l (k : Nat) : Xo k = Apx (fun α x => hid x) k := by delta Xo Apx; first | (rw [Ata k]; done) | (rw [Ata k]; rfl)
def Af2 (h : (α : Type) → α → α) (k : Nat) : EnvL := [(13, [Aqa h k]), (70, [Apx h k])]
theorem Aya (k : Nat) : Af1 k = Af2 (fun α x => hid x) k := by delta Af1 Af2; first | (rw [A75 k, A7l k]; done) | (rw [A75 k, A7l k]; rfl)
def Af6 (h : (α : Type) → α → α) (k : Nat) : FnX H81 := mkX ({ mkC (Af2 h k) 276 2 3 with hint := fun i => look none [(7, some Af4)] i, ef := [(22, (([1], [2]), ([], [70, 146]))), (58, (([0, 1, 49], [0, 1, 2]), ([], [])))], ld := [(14, 49), (15, 9999), (16, 9999), (17, 0), (18, 49), (19, 9999), (20, 9999), (21, 0), (52, 49), (53, 49), (54, 9999), (55, 9999), (56, 0)] }) k Tryz.f34 Jk
theorem Ayb (k : Nat) : Fu k = Af6 (fun α x => hid x) k := by delta Fu Af6; first | (rw [Aya k]; done) | (rw [Aya k]; rfl)
def Aat (h : (α : Type) → α → α) (k : Nat) : H81 → Option H81 := h _ (Ac (Af6 h k).C k Tryz.f34 Jj Jk)
theorem As7 (k : Nat) : Ij k = Aat (fun α x => hid x) k := by delta Ij Aat; first | (rw [Ayb k]; done) | (rw [Ayb k]; rfl)
def Apv (h : (α : Type) → α → α) (k : Nat) : Sig := Ab Jj Jk (Aat h k)
theorem A7j (k : Nat) : Pt k = Apv (fun α x => hid x) k := by delta Pt Apv; first | (rw [As7 k]; done) | (rw [As7 k]; rfl)
def Abu (h : (α : Type) → α → α) (k : Nat) : H68 → Option (List (YT11)) := h _ (Ac (Akw k) k Tryz.f41 Us Ut)
theorem Aug (k : Nat) : Is k = Abu (fun α x => hid x) k := by delta Is Abu; rfl
def Aqj (h : (α : Type) → α → α) (k : Nat) : Sig := Ab Us Ut (Abu h k)
theorem A8f (k : Nat) : Ya k = Aqj (fun α x => hid x) k := by delta Ya Aqj; first | (rw [Aug k]; done) | (rw [Aug k]; rfl)
def Aiv (h : (α : Type) → α → α) (k : Nat) : EnvL := [(37, [Xz h k]), (40, [P6 h k]), (41, [Aqj h k]), (42, [La h k]), (30, [Xw h k])]
theorem A0h (k : Nat) : Aiu k = Aiv (fun α x => hid x) k := by delta Aiu Aiv; first | (rw [X0 k, Lc k, A8f k, Gd k, Xx k]; done) | (rw [X0 k, Lc k, A8f k, Gd k, Xx k]; rfl)
def Ai0 (h : (α : Type) → α → α) (k : Nat) : FnX H62 := mkX ({ mkC (Aiv h k) 176 1 1 with hint := fun i => look none [(3, some Aix)] i, ef := [(46, (([], [0]), ([], []))), (63, (([0], [0]), ([], [111])))], ld := [(44, 9999), (45, 9999), (52, 9999), (53, 9999), (54, 0), (57, 9999), (58, 9999), (59, 9999), (60, 0)] }) k Tryz.f14 J3
theorem A0i (k : Nat) : C0 k = Ai0 (fun α x => hid x) k := by delta C0 Ai0; first | (rw [A0h k]; done) | (rw [A0h k]; rfl)
def Abf (h : (α : Type) → α → α) (k : Nat) : H62 → Option H62 := h _ (Ac (Ai0 h k).C k Tryz.f14 N6 J3)
theorem Att (k : Nat) : Fp k = Abf (fun α x => hid x) k := by delta Fp Abf; first | (rw [A0i k]; done) | (rw [A0i k]; rfl)
def Aqb (h : (α : Type) → α → α) (k : Nat) : Sig := Ab N6 J3 (Abf h k)
theorem A76 (k : Nat) : K9 k = Aqb (fun α x => hid x) k := by delta K9 Aqb; first | (rw [Att k]; done) | (rw [Att k]; rfl)
def Aau (h : (α : Type) → α → α) (k : Nat) : H81 → Option H94 := h _ (Ac (Af7 k) k Tryz.f32 Ni Sz)
theorem As8 (k : Nat) : Ez k = Aau (fun α x => hid x) k := by delta Ez Aau; rfl
def Apw (h : (α : Type) → α → α) (k : Nat) : Sig := Ab Ni Sz (Aau h k)
theorem A7k (k : Nat) : Gc k = Apw (fun α x => hid x) k := by delta Gc Apw; first | (rw [As8 k]; done) | (rw [As8 k]; rfl)
def Afv (h : (α : Type) → α → α) (k : Nat) : EnvL := [(89, [Apt h k]), (70, [Apy h k])]
theorem Ax1 (k : Nat) : Aft k = Afv (fun α x => hid x) k := by delta Aft Afv; first | (rw [A7h k, A7m k]; done) | (rw [A7h k, A7m k]; rfl)
def Afw (h : (α : Type) → α → α) (k : Nat) : FnX H113 := mkX ({ mkC (Afv h k) 178 2 3 with hint := fun i => look none [(6, some Ax0)] i, ld := [(12, 50), (13, 50), (14, 50), (15, 50), (16, 50), (18, 9999), (19, 9999), (20, 9999), (21, 9999), (22, 9999), (23, 9999), (24, 9999), (25, 9999), (26, 9999), (27, 9999), (28, 50), (29, 50), (30, 9999), (31, 9999), (32, 9999), (33, 0), (36, 9999), (37, 9999), (54, 9999), (55, 57), (56, 9999), (57, 57), (59, 9999), (60, 57), (77, 2), (78, 2), (79, 9999), (80, 9999), (81, 0), (82, 9999), (83, 57), (84, 9999), (85, 57), (87, 58), (90, 9999), (91, 9999), (118, 2), (119, 2), (120, 2), (121, 9999), (122, 9999), (123, 0), (124, 9999), (125, 9999), (126, 9999), (127, 9999)], sr := [(10, 58), (19, 0), (21, 0), (23, 0), (25, 0), (27, 0), (37, 0), (91, 0), (125, 0), (127, 0)] }) k Tryz.f67 Jh
theorem Ax2 (k : Nat) : Sr k = Afw (fun α x => hid x) k := by delta Sr Afw; first | (rw [Ax1 k]; done) | (rw [Ax1 k]; rfl)
def Aao (h : (α : Type) → α → α) (k : Nat) : H110 → Option H113 := h _ (Ac (Afw h k).C k Tryz.f67 Ss Jh)
theorem As2 (k : Nat) : Rf k = Aao (fun α x => hid x) k := by delta Rf Aao; first | (rw [Ax2 k]; done) | (rw [Ax2 k]; rfl)
def Aps (h : (α : Type) → α → α) (k : Nat) : Sig := Ab Ss Jh (Aao h k)
theorem A7g (k : Nat) : Xl k = Aps (fun α x => hid x) k := by delta Xl Aps; first | (rw [As2 k]; done) | (rw [As2 k]; rfl)
def Ag0 (h : (α : Type) → α → α) (k : Nat) : EnvL := [(66, [Aqx h k]), (67, [Aps h k]), (68, [Ap0 h k]), (69, [Xk k])]
theorem Ayr (k : Nat) : Agm k = Ag0 (fun α x => hid x) k := by delta Agm Ag0; first | (rw [A8t k, A7g k, A7o k]; done) | (rw [A8t k, A7g k, A7o k]; rfl)
def Ag1 (h : (α : Type) → α → α) (k : Nat) : FnX H92 := mkX ({ mkC (Ag0 h k) 144 2 3 with hint := fun i => look none [(2, some Agr), (4, some Ags), (6, some Agt), (9, some Agu)] i, ld := [(61, 9999), (62, 52), (63, 9999), (64, 52), (67, 9999), (68, 9999), (69, 0), (71, 9999), (72, 9999), (73, 9999), (74, 9999), (75, 9999), (76, 9999)], sr := [(72, 0), (74, 0), (76, 0)] }) k Tryz.f33 Jr
theorem Ays (k : Nat) : A9 k = Ag1 (fun α x => hid x) k := by delta A9 Ag1; first | (rw [Ayr k]; done) | (rw [Ayr k]; rfl)
def Aa3 (h : (α : Type) → α → α) (k : Nat) : H110 → Option H92 := h _ (Ac (Ag1 h k).C k Tryz.f33 Np Jr)
theorem Ath (k : Nat) : Ik k = Aa3 (fun α x => hid x) k := by delta Ik Aa3; first | (rw [Ays k]; done) | (rw [Ays k]; rfl)
def Ap1 (h : (α : Type) → α → α) (k : Nat) : Sig := Ab Np Jr (Aa3 h k)
theorem A7q (k : Nat) : Xs k = Ap1 (fun α x => hid x) k := by delta Xs Ap1; first | (rw [Ath k]; done) | (rw [Ath k]; rfl)
def Afs (h : (α : Type) → α → α) (k : Nat) : EnvL := [(32, [Apw h k]), (33, [Ap1 h k]), (34, [Apv h k]), (14, [Aqb h k])]
theorem Axw (k : Nat) : Afo k = Afs (fun α x => hid x) k := by delta Afo Afs; first | (rw [A7k k, A7q k, A7j k, A76 k]; done) | (rw [A7k k, A7q k, A7j k, A76 k]; rfl)
def Afr (h : (α : Type) → α → α) (k : Nat) : Cfg := { mkC (Afs h k) 99 2 3 with ld := [(31, 9999), (32, 9999), (33, 0), (36, 9999), (37, 9999), (38, 0), (40, 9999), (41, 9999)], sr := [(41, 0)] }
theorem Axv (k : Nat) : Sq k = Afr (fun α x => hid x) k := by delta Sq Afr; first | (rw [Axw k]; done) | (rw [Axw k]; rfl)
def Ei (h : (α : Type) → α → α) (k : Nat) : H110 → Option H81 := h _ (Ac (Afr h k) k Tryz.f9 Afp Afq)
theorem Fm (k : Nat) : Cc k = Ei (fun α x => hid x) k := by delta Cc Ei; first | (rw [Axv k]; done) | (rw [Axv k]; rfl)
theorem E5 : (fun (α : Type) (x : α) => hid x) = fun _ x => x := by funext α x; exact V6 x
end
end Go.Proofs.YtgmpjapnhdilaaaGreatV
