/- A part of the proof: the functions of the program compute that. -/
import Derived.Test.YtgpckcnoinifiaaRpa
section
namespace Go.Den
open Go Go.Proofs
noncomputable section
set_option linter.unusedVariables false
set_option maxRecDepth 100000
noncomputable def tab_impl_RowOk_1 (s_impl_Value_ok : T_impl_Value_ok) : List (Nat × SmC) := [(57, C_impl_Value_ok s_impl_Value_ok)]
def t_impl_RowOk_1  : ST := .o
def fin_impl_RowOk_1 : Option Live := none
theorem fs_impl_RowOk_1 (cs) (s_impl_Value_ok : T_impl_Value_ok)  (p1 : Int) (p2 : Int) (p3 : ByteArray) (K : List (List DV) → DV → Option FR) :
    denFS (envP PP eqT cs) (tabC (tab_impl_RowOk_1 s_impl_Value_ok)) (t_impl_RowOk_1 ) fin_impl_RowOk_1 (fnO 79) fuel [.agg [.ro (.lit (.int .i64 p1)), .ro (.lit (.int .i64 p2)), .ro (.lit (.string p3))]] K = F_impl_RowOk_1 s_impl_Value_ok  p1 p2 p3 (fun r1 => K [] (.ro (.lit (.bool r1)))) := by kernel_rfl
theorem va_impl_RowOk_1 (cs) (hC : CsOK (envP PP eqT cs) (tabC (tab_impl_RowOk_1 S_impl_Value_ok))) : Valid (envP PP eqT cs) fuel (t_impl_RowOk_1 ) (bodyOf (fnO 79)) := trivial
theorem good_impl_RowOk_1 : Good PP 79 (C_impl_RowOk_1 S_impl_RowOk_1) :=
  good_fn (tab := tab_impl_RowOk_1 S_impl_Value_ok) hmix heq (Tab.cons good_impl_Value_ok Tab.nil) (show PP.funcs[79]? = some (fnO 79) by kernel_rfl) (show takes (fnO 79) = true by kernel_rfl) va_impl_RowOk_1 (by
    intro cs args K r h
    unfold C_impl_RowOk_1 at h
    replace h := lCons_some h; obtain ⟨a1_, t2_, rfl, h⟩ := h; replace h := dAgg_some h; obtain ⟨c3_, rfl, h⟩ := h; replace h := lCons_some h; obtain ⟨a4_, t5_, rfl, h⟩ := h; replace h := dRo_some h; obtain ⟨d6_, rfl, h⟩ := h; replace h := rInt_some h; obtain ⟨p1, rfl, h⟩ := h; replace h := lCons_some h; obtain ⟨a7_, t8_, rfl, h⟩ := h; replace h := dRo_some h; obtain ⟨d9_, rfl, h⟩ := h; replace h := rInt_some h; obtain ⟨p2, rfl, h⟩ := h; replace h := lCons_some h; obtain ⟨a10_, t11_, rfl, h⟩ := h; replace h := dRo_some h; obtain ⟨d12_, rfl, h⟩ := h; replace h := rStr_some h; obtain ⟨p3, rfl, h⟩ := h; replace h := lNil_some h; obtain ⟨rfl, h⟩ := h; replace h := lNil_some h; obtain ⟨rfl, h⟩ := h
    exact (fs_impl_RowOk_1 cs S_impl_Value_ok  _ _ _ K).trans h)
noncomputable def tab_slices_IndexFunc_Limpl_Value_impl_Value (s_impl_RowOk_1 : T_impl_RowOk_1) : List (Nat × SmC) := [(79, C_impl_RowOk_1 s_impl_RowOk_1)]
abbrev I_slices_IndexFunc_Limpl_Value_impl_Value_0 := Bool × List (List RD) × Int
abbrev V_slices_IndexFunc_Limpl_Value_impl_Value_0 := Int
def h_slices_IndexFunc_Limpl_Value_impl_Value_0 : Hint := ⟨⟨[(0, 49), (1, 59), (7, 3), (8, 3)], [], []⟩, [(2, ⟨[], [], []⟩), (1, ⟨[(4, 3)], [], []⟩)]⟩
def d_slices_IndexFunc_Limpl_Value_impl_Value_0 (a : List AV) (o : List OB) : Option (I_slices_IndexFunc_Limpl_Value_impl_Value_0 × V_slices_IndexFunc_Limpl_Value_impl_Value_0) :=
  lCons a fun a1_ t2_ => aRd a1_ fun d3_ => rSl d3_ fun v1t v1 => lCons t2_ fun a4_ t5_ => aRd a4_ fun d6_ => rFn 79 d6_ fun c7_ => lNil c7_ <| lCons t5_ fun a8_ t9_ => aRd a8_ fun d10_ => rInt .i64 d10_ fun v2 => lCons t9_ fun a11_ t12_ => aRd a11_ fun d13_ => rInt .i64 d13_ fun v3 => lNil t12_ <| lNil o <|
  some ((v1t, v1, v2), v3)
def ea_slices_IndexFunc_Limpl_Value_impl_Value_0 (p : I_slices_IndexFunc_Limpl_Value_impl_Value_0) (v : V_slices_IndexFunc_Limpl_Value_impl_Value_0) : List AV := [.rd (.sl p.1 p.2.1), .rd (.fn 79 []), .rd (.lit (.int .i64 p.2.2)), .rd (.lit (.int .i64 v))]
def eo_slices_IndexFunc_Limpl_Value_impl_Value_0 (p : I_slices_IndexFunc_Limpl_Value_impl_Value_0) (v : V_slices_IndexFunc_Limpl_Value_impl_Value_0) : List OB := []
def g_slices_IndexFunc_Limpl_Value_impl_Value_0 (l : TL_slices_IndexFunc_Limpl_Value_impl_Value_0) : Sg := fun a o K => match d_slices_IndexFunc_Limpl_Value_impl_Value_0 a o with
  | some (p, v) => l (fun z10 => K .ret [.rd (.lit (.int .i64 z10))] []) (K (.exit 0) [] []) p.1 p.2.1 p.2.2 v
  | none => none
def x_slices_IndexFunc_Limpl_Value_impl_Value_0  : ST := .o
def t_slices_IndexFunc_Limpl_Value_impl_Value_0 (s : Sg) : ST := .n (some h_slices_IndexFunc_Limpl_Value_impl_Value_0) (some s) (x_slices_IndexFunc_Limpl_Value_impl_Value_0 ) .o
theorem st_slices_IndexFunc_Limpl_Value_impl_Value_0 (cs) (s_impl_RowOk_1 : T_impl_RowOk_1)  (K : Ex → List AV → List OB → Option FR) (rc : List AV → List OB → Option FR) (p : I_slices_IndexFunc_Limpl_Value_impl_Value_0) (v : V_slices_IndexFunc_Limpl_Value_impl_Value_0) :
    denS (envP PP eqT cs) (tabC (tab_slices_IndexFunc_Limpl_Value_impl_Value s_impl_RowOk_1)) fuel (cAt (bodyOf (fnO 100)) [1, 0, 1, 0, 0]) (x_slices_IndexFunc_Limpl_Value_impl_Value_0 ) (mkSt h_slices_IndexFunc_Limpl_Value_impl_Value_0.live (ea_slices_IndexFunc_Limpl_Value_impl_Value_0 p v) (eo_slices_IndexFunc_Limpl_Value_impl_Value_0 p v)) (fun e st' => match e with
        | .normal => canon (envP PP eqT cs) h_slices_IndexFunc_Limpl_Value_impl_Value_0.live st' rc
        | .exit i => outK (envP PP eqT cs) h_slices_IndexFunc_Limpl_Value_impl_Value_0.outs (.exit i) st' fun a o _ => K (.exit i) a o
        | .ret => outK (envP PP eqT cs) h_slices_IndexFunc_Limpl_Value_impl_Value_0.outs .ret st' fun a o _ => K .ret a o)
      = B_slices_IndexFunc_Limpl_Value_impl_Value_0 s_impl_RowOk_1  (fun z11 => K .ret [.rd (.lit (.int .i64 z11))] []) (K (.exit 0) [] []) p.1 p.2.1 p.2.2 (fun y0 => rc (ea_slices_IndexFunc_Limpl_Value_impl_Value_0 p y0) (eo_slices_IndexFunc_Limpl_Value_impl_Value_0 p y0)) v := by kernel_rfl
theorem v_slices_IndexFunc_Limpl_Value_impl_Value_0 (cs) (hC : CsOK (envP PP eqT cs) (tabC (tab_slices_IndexFunc_Limpl_Value_impl_Value S_impl_RowOk_1))) : Valid (envP PP eqT cs) fuel (x_slices_IndexFunc_Limpl_Value_impl_Value_0 ) (cAt (bodyOf (fnO 100)) [1, 0, 1, 0, 0]) := trivial
theorem sg_slices_IndexFunc_Limpl_Value_impl_Value_0 (cs) (hC : CsOK (envP PP eqT cs) (tabC (tab_slices_IndexFunc_Limpl_Value_impl_Value S_impl_RowOk_1))) : SgOK (envP PP eqT cs) (t_slices_IndexFunc_Limpl_Value_impl_Value_0  (g_slices_IndexFunc_Limpl_Value_impl_Value_0 G_slices_IndexFunc_Limpl_Value_impl_Value_0)) (fun st K => denLoop (envP PP eqT cs) (hLive (some h_slices_IndexFunc_Limpl_Value_impl_Value_0)) (den (envP PP eqT cs) fuel (cAt (bodyOf (fnO 100)) [1, 0, 1, 0, 0]) (x_slices_IndexFunc_Limpl_Value_impl_Value_0 )) fuel st K) :=
  loop_sg hC d_slices_IndexFunc_Limpl_Value_impl_Value_0 ea_slices_IndexFunc_Limpl_Value_impl_Value_0 eo_slices_IndexFunc_Limpl_Value_impl_Value_0 (fun a o p v h => by unfold d_slices_IndexFunc_Limpl_Value_impl_Value_0 at h; replace h := lCons_some h; obtain ⟨a1_, t2_, rfl, h⟩ := h; replace h := aRd_some h; obtain ⟨d3_, rfl, h⟩ := h; replace h := rSl_some h; obtain ⟨v1t, v1, rfl, h⟩ := h; replace h := lCons_some h; obtain ⟨a4_, t5_, rfl, h⟩ := h; replace h := aRd_some h; obtain ⟨d6_, rfl, h⟩ := h; replace h := rFn_some h; obtain ⟨c7_, rfl, h⟩ := h; replace h := lNil_some h; obtain ⟨rfl, h⟩ := h; replace h := lCons_some h; obtain ⟨a8_, t9_, rfl, h⟩ := h; replace h := aRd_some h; obtain ⟨d10_, rfl, h⟩ := h; replace h := rInt_some h; obtain ⟨v2, rfl, h⟩ := h; replace h := lCons_some h; obtain ⟨a11_, t12_, rfl, h⟩ := h; replace h := aRd_some h; obtain ⟨d13_, rfl, h⟩ := h; replace h := rInt_some h; obtain ⟨v3, rfl, h⟩ := h; replace h := lNil_some h; obtain ⟨rfl, h⟩ := h; replace h := lNil_some h; obtain ⟨rfl, h⟩ := h; cases h; exact ⟨rfl, rfl⟩)
    (fun K p rc v => B_slices_IndexFunc_Limpl_Value_impl_Value_0 S_impl_RowOk_1  (fun z11 => K .ret [.rd (.lit (.int .i64 z11))] []) (K (.exit 0) [] []) p.1 p.2.1 p.2.2 (fun y0 => rc y0) v)
    (fun K p n v => L_slices_IndexFunc_Limpl_Value_impl_Value_0 S_impl_RowOk_1  (fun z11 => K .ret [.rd (.lit (.int .i64 z11))] []) (K (.exit 0) [] []) p.1 p.2.1 p.2.2 n v) (fun K p v => rfl) (fun K p n v => rfl) (by kernel_rfl) (v_slices_IndexFunc_Limpl_Value_impl_Value_0 cs hC)
    (fun K rc p v => st_slices_IndexFunc_Limpl_Value_impl_Value_0 cs S_impl_RowOk_1  K rc p v)
def t_slices_IndexFunc_Limpl_Value_impl_Value (l0 : TL_slices_IndexFunc_Limpl_Value_impl_Value_0) : ST := (.n none none .o (.n none none (.n none none .o (.n none none (t_slices_IndexFunc_Limpl_Value_impl_Value_0 (g_slices_IndexFunc_Limpl_Value_impl_Value_0 l0)) .o)) .o))
def fin_slices_IndexFunc_Limpl_Value_impl_Value : Option Live := none
theorem fs_slices_IndexFunc_Limpl_Value_impl_Value (cs) (s_impl_RowOk_1 : T_impl_RowOk_1) (l0 : TL_slices_IndexFunc_Limpl_Value_impl_Value_0) (p1t : Bool) (p1 : List (List RD)) (K : List (List DV) → DV → Option FR) :
    denFS (envP PP eqT cs) (tabC (tab_slices_IndexFunc_Limpl_Value_impl_Value s_impl_RowOk_1)) (t_slices_IndexFunc_Limpl_Value_impl_Value l0) fin_slices_IndexFunc_Limpl_Value_impl_Value (fnO 100) fuel [.ro (.sl p1t p1), .ro (.fn 79 [])] K = F_slices_IndexFunc_Limpl_Value_impl_Value  l0 p1t p1 (fun r1 => K [] (.ro (.lit (.int .i64 r1)))) := by kernel_rfl
theorem va_slices_IndexFunc_Limpl_Value_impl_Value (cs) (hC : CsOK (envP PP eqT cs) (tabC (tab_slices_IndexFunc_Limpl_Value_impl_Value S_impl_RowOk_1))) : Valid (envP PP eqT cs) fuel (t_slices_IndexFunc_Limpl_Value_impl_Value G_slices_IndexFunc_Limpl_Value_impl_Value_0) (bodyOf (fnO 100)) := ⟨⟨trivial, ⟨⟨⟨⟨trivial, ⟨⟨v_slices_IndexFunc_Limpl_Value_impl_Value_0 cs hC, sg_slices_IndexFunc_Limpl_Value_impl_Value_0 cs hC⟩, sg_none⟩⟩, sg_none⟩, trivial⟩, sg_none⟩⟩, sg_none⟩
theorem good_slices_IndexFunc_Limpl_Value_impl_Value : Good PP 100 (C_slices_IndexFunc_Limpl_Value_impl_Value S_slices_IndexFunc_Limpl_Value_impl_Value) :=
  good_fn (tab := tab_slices_IndexFunc_Limpl_Value_impl_Value S_impl_RowOk_1) hmix heq (Tab.cons good_impl_RowOk_1 Tab.nil) (show PP.funcs[100]? = some (fnO 100) by kernel_rfl) (show takes (fnO 100) = true by kernel_rfl) va_slices_IndexFunc_Limpl_Value_impl_Value (by
    intro cs args K r h
    unfold C_slices_IndexFunc_Limpl_Value_impl_Value at h
    replace h := lCons_some h; obtain ⟨a1_, t2_, rfl, h⟩ := h; replace h := dRo_some h; obtain ⟨d3_, rfl, h⟩ := h; replace h := rSl_some h; obtain ⟨p1t, p1, rfl, h⟩ := h; replace h := lCons_some h; obtain ⟨a4_, t5_, rfl, h⟩ := h; replace h := dRo_some h; obtain ⟨d6_, rfl, h⟩ := h; replace h := rFn_some h; obtain ⟨c7_, rfl, h⟩ := h; replace h := lNil_some h; obtain ⟨rfl, h⟩ := h; replace h := lNil_some h; obtain ⟨rfl, h⟩ := h
    exact (fs_slices_IndexFunc_Limpl_Value_impl_Value cs S_impl_RowOk_1 G_slices_IndexFunc_Limpl_Value_impl_Value_0 _ _ K).trans h)
noncomputable def tab_slices_ContainsFunc_Limpl_Value_impl_Value (s_slices_IndexFunc_Limpl_Value_impl_Value : T_slices_IndexFunc_Limpl_Value_impl_Value) : List (Nat × SmC) := [(100, C_slices_IndexFunc_Limpl_Value_impl_Value s_slices_IndexFunc_Limpl_Value_impl_Value)]
def t_slices_ContainsFunc_Limpl_Value_impl_Value  : ST := .o
def fin_slices_ContainsFunc_Limpl_Value_impl_Value : Option Live := none
theorem fs_slices_ContainsFunc_Limpl_Value_impl_Value (cs) (s_slices_IndexFunc_Limpl_Value_impl_Value : T_slices_IndexFunc_Limpl_Value_impl_Value)  (p1t : Bool) (p1 : List (List RD)) (K : List (List DV) → DV → Option FR) :
    denFS (envP PP eqT cs) (tabC (tab_slices_ContainsFunc_Limpl_Value_impl_Value s_slices_IndexFunc_Limpl_Value_impl_Value)) (t_slices_ContainsFunc_Limpl_Value_impl_Value ) fin_slices_ContainsFunc_Limpl_Value_impl_Value (fnO 78) fuel [.ro (.sl p1t p1), .ro (.fn 79 [])] K = F_slices_ContainsFunc_Limpl_Value_impl_Value s_slices_IndexFunc_Limpl_Value_impl_Value  p1t p1 (fun r1 => K [] (.ro (.lit (.bool r1)))) := by kernel_rfl
theorem va_slices_ContainsFunc_Limpl_Value_impl_Value (cs) (hC : CsOK (envP PP eqT cs) (tabC (tab_slices_ContainsFunc_Limpl_Value_impl_Value S_slices_IndexFunc_Limpl_Value_impl_Value))) : Valid (envP PP eqT cs) fuel (t_slices_ContainsFunc_Limpl_Value_impl_Value ) (bodyOf (fnO 78)) := trivial
theorem good_slices_ContainsFunc_Limpl_Value_impl_Value : Good PP 78 (C_slices_ContainsFunc_Limpl_Value_impl_Value S_slices_ContainsFunc_Limpl_Value_impl_Value) :=
  good_fn (tab := tab_slices_ContainsFunc_Limpl_Value_impl_Value S_slices_IndexFunc_Limpl_Value_impl_Value) hmix heq (Tab.cons good_slices_IndexFunc_Limpl_Value_impl_Value Tab.nil) (show PP.funcs[78]? = some (fnO 78) by kernel_rfl) (show takes (fnO 78) = true by kernel_rfl) va_slices_ContainsFunc_Limpl_Value_impl_Value (by
    intro cs args K r h
    unfold C_slices_ContainsFunc_Limpl_Value_impl_Value at h
    replace h := lCons_some h; obtain ⟨a1_, t2_, rfl, h⟩ := h; replace h := dRo_some h; obtain ⟨d3_, rfl, h⟩ := h; replace h := rSl_some h; obtain ⟨p1t, p1, rfl, h⟩ := h; replace h := lCons_some h; obtain ⟨a4_, t5_, rfl, h⟩ := h; replace h := dRo_some h; obtain ⟨d6_, rfl, h⟩ := h; replace h := rFn_some h; obtain ⟨c7_, rfl, h⟩ := h; replace h := lNil_some h; obtain ⟨rfl, h⟩ := h; replace h := lNil_some h; obtain ⟨rfl, h⟩ := h
    exact (fs_slices_ContainsFunc_Limpl_Value_impl_Value cs S_slices_IndexFunc_Limpl_Value_impl_Value  _ _ K).trans h)
noncomputable def tab_impl_RowOk (s_slices_ContainsFunc_Limpl_Value_impl_Value : T_slices_ContainsFunc_Limpl_Value_impl_Value) : List (Nat × SmC) := [(78, C_slices_ContainsFunc_Limpl_Value_impl_Value s_slices_ContainsFunc_Limpl_Value_impl_Value)]
def t_impl_RowOk  : ST := .o
def fin_impl_RowOk : Option Live := none
theorem fs_impl_RowOk (cs) (s_slices_ContainsFunc_Limpl_Value_impl_Value : T_slices_ContainsFunc_Limpl_Value_impl_Value)  (p1t : Bool) (p1 : List (List RD)) (K : List (List DV) → DV → Option FR) :
    denFS (envP PP eqT cs) (tabC (tab_impl_RowOk s_slices_ContainsFunc_Limpl_Value_impl_Value)) (t_impl_RowOk ) fin_impl_RowOk (fnO 53) fuel [.ro (.sl p1t p1)] K = F_impl_RowOk s_slices_ContainsFunc_Limpl_Value_impl_Value  p1t p1 (fun r1 => K [] (.ro (.lit (.bool r1)))) := by kernel_rfl
theorem va_impl_RowOk (cs) (hC : CsOK (envP PP eqT cs) (tabC (tab_impl_RowOk S_slices_ContainsFunc_Limpl_Value_impl_Value))) : Valid (envP PP eqT cs) fuel (t_impl_RowOk ) (bodyOf (fnO 53)) := trivial
theorem good_impl_RowOk : Good PP 53 (C_impl_RowOk S_impl_RowOk) :=
  good_fn (tab := tab_impl_RowOk S_slices_ContainsFunc_Limpl_Value_impl_Value) hmix heq (Tab.cons good_slices_ContainsFunc_Limpl_Value_impl_Value Tab.nil) (show PP.funcs[53]? = some (fnO 53) by kernel_rfl) (show takes (fnO 53) = true by kernel_rfl) va_impl_RowOk (by
    intro cs args K r h
    unfold C_impl_RowOk at h
    replace h := lCons_some h; obtain ⟨a1_, t2_, rfl, h⟩ := h; replace h := dRo_some h; obtain ⟨d3_, rfl, h⟩ := h; replace h := rSl_some h; obtain ⟨p1t, p1, rfl, h⟩ := h; replace h := lNil_some h; obtain ⟨rfl, h⟩ := h
    exact (fs_impl_RowOk cs S_slices_ContainsFunc_Limpl_Value_impl_Value  _ _ K).trans h)
noncomputable def tab_impl_VersionsOk (s_impl_keyOk : T_impl_keyOk) (s_impl_between : T_impl_between) (s_impl_RowOk : T_impl_RowOk) : List (Nat × SmC) := [(52, C_impl_keyOk s_impl_keyOk), (25, C_impl_between s_impl_between), (53, C_impl_RowOk s_impl_RowOk)]
abbrev I_impl_VersionsOk_0 := Bool × List (List RD) × Bool × List (List RD) × Int
abbrev V_impl_VersionsOk_0 := Int
def h_impl_VersionsOk_0 : Hint := ⟨⟨[(0, 23), (6, 23), (7, 3), (8, 3)], [], []⟩, [(2, ⟨[(0, 23)], [], []⟩), (1, ⟨[(2, 4)], [], []⟩)]⟩
def d_impl_VersionsOk_0 (a : List AV) (o : List OB) : Option (I_impl_VersionsOk_0 × V_impl_VersionsOk_0) :=
  lCons a fun a1_ t2_ => aRd a1_ fun d3_ => rSl d3_ fun v1t v1 => lCons t2_ fun a4_ t5_ => aRd a4_ fun d6_ => rSl d6_ fun v2t v2 => lCons t5_ fun a7_ t8_ => aRd a7_ fun d9_ => rInt .i64 d9_ fun v3 => lCons t8_ fun a10_ t11_ => aRd a10_ fun d12_ => rInt .i64 d12_ fun v4 => lNil t11_ <| lNil o <|
  some ((v1t, v1, v2t, v2, v3), v4)
def ea_impl_VersionsOk_0 (p : I_impl_VersionsOk_0) (v : V_impl_VersionsOk_0) : List AV := [.rd (.sl p.1 p.2.1), .rd (.sl p.2.2.1 p.2.2.2.1), .rd (.lit (.int .i64 p.2.2.2.2)), .rd (.lit (.int .i64 v))]
def eo_impl_VersionsOk_0 (p : I_impl_VersionsOk_0) (v : V_impl_VersionsOk_0) : List OB := []
def g_impl_VersionsOk_0 (l : TL_impl_VersionsOk_0) : Sg := fun a o K => match d_impl_VersionsOk_0 a o with
  | some (p, v) => l (fun z26 => K .ret [.rd (.lit (.bool z26))] []) (fun z27t z27 => K (.exit 0) [.rd (.sl z27t z27)] []) p.1 p.2.1 p.2.2.1 p.2.2.2.1 p.2.2.2.2 v
  | none => none
def x_impl_VersionsOk_0  : ST := .o
def t_impl_VersionsOk_0 (s : Sg) : ST := .n (some h_impl_VersionsOk_0) (some s) (x_impl_VersionsOk_0 ) .o
theorem st_impl_VersionsOk_0 (cs) (s_impl_keyOk : T_impl_keyOk) (s_impl_between : T_impl_between) (s_impl_RowOk : T_impl_RowOk)  (K : Ex → List AV → List OB → Option FR) (rc : List AV → List OB → Option FR) (p : I_impl_VersionsOk_0) (v : V_impl_VersionsOk_0) :
    denS (envP PP eqT cs) (tabC (tab_impl_VersionsOk s_impl_keyOk s_impl_between s_impl_RowOk)) fuel (cAt (bodyOf (fnO 24)) [1, 0, 1, 0, 0]) (x_impl_VersionsOk_0 ) (mkSt h_impl_VersionsOk_0.live (ea_impl_VersionsOk_0 p v) (eo_impl_VersionsOk_0 p v)) (fun e st' => match e with
        | .normal => canon (envP PP eqT cs) h_impl_VersionsOk_0.live st' rc
        | .exit i => outK (envP PP eqT cs) h_impl_VersionsOk_0.outs (.exit i) st' fun a o _ => K (.exit i) a o
        | .ret => outK (envP PP eqT cs) h_impl_VersionsOk_0.outs .ret st' fun a o _ => K .ret a o)
      = B_impl_VersionsOk_0 s_impl_keyOk s_impl_between s_impl_RowOk  (fun z28 => K .ret [.rd (.lit (.bool z28))] []) (fun z29t z29 => K (.exit 0) [.rd (.sl z29t z29)] []) p.1 p.2.1 p.2.2.1 p.2.2.2.1 p.2.2.2.2 (fun y0 => rc (ea_impl_VersionsOk_0 p y0) (eo_impl_VersionsOk_0 p y0)) v := by kernel_rfl
theorem v_impl_VersionsOk_0 (cs) (hC : CsOK (envP PP eqT cs) (tabC (tab_impl_VersionsOk S_impl_keyOk S_impl_between S_impl_RowOk))) : Valid (envP PP eqT cs) fuel (x_impl_VersionsOk_0 ) (cAt (bodyOf (fnO 24)) [1, 0, 1, 0, 0]) := trivial
theorem sg_impl_VersionsOk_0 (cs) (hC : CsOK (envP PP eqT cs) (tabC (tab_impl_VersionsOk S_impl_keyOk S_impl_between S_impl_RowOk))) : SgOK (envP PP eqT cs) (t_impl_VersionsOk_0  (g_impl_VersionsOk_0 G_impl_VersionsOk_0)) (fun st K => denLoop (envP PP eqT cs) (hLive (some h_impl_VersionsOk_0)) (den (envP PP eqT cs) fuel (cAt (bodyOf (fnO 24)) [1, 0, 1, 0, 0]) (x_impl_VersionsOk_0 )) fuel st K) :=
  loop_sg hC d_impl_VersionsOk_0 ea_impl_VersionsOk_0 eo_impl_VersionsOk_0 (fun a o p v h => by unfold d_impl_VersionsOk_0 at h; replace h := lCons_some h; obtain ⟨a1_, t2_, rfl, h⟩ := h; replace h := aRd_some h; obtain ⟨d3_, rfl, h⟩ := h; replace h := rSl_some h; obtain ⟨v1t, v1, rfl, h⟩ := h; replace h := lCons_some h; obtain ⟨a4_, t5_, rfl, h⟩ := h; replace h := aRd_some h; obtain ⟨d6_, rfl, h⟩ := h; replace h := rSl_some h; obtain ⟨v2t, v2, rfl, h⟩ := h; replace h := lCons_some h; obtain ⟨a7_, t8_, rfl, h⟩ := h; replace h := aRd_some h; obtain ⟨d9_, rfl, h⟩ := h; replace h := rInt_some h; obtain ⟨v3, rfl, h⟩ := h; replace h := lCons_some h; obtain ⟨a10_, t11_, rfl, h⟩ := h; replace h := aRd_some h; obtain ⟨d12_, rfl, h⟩ := h; replace h := rInt_some h; obtain ⟨v4, rfl, h⟩ := h; replace h := lNil_some h; obtain ⟨rfl, h⟩ := h; replace h := lNil_some h; obtain ⟨rfl, h⟩ := h; cases h; exact ⟨rfl, rfl⟩)
    (fun K p rc v => B_impl_VersionsOk_0 S_impl_keyOk S_impl_between S_impl_RowOk  (fun z28 => K .ret [.rd (.lit (.bool z28))] []) (fun z29t z29 => K (.exit 0) [.rd (.sl z29t z29)] []) p.1 p.2.1 p.2.2.1 p.2.2.2.1 p.2.2.2.2 (fun y0 => rc y0) v)
    (fun K p n v => L_impl_VersionsOk_0 S_impl_keyOk S_impl_between S_impl_RowOk  (fun z28 => K .ret [.rd (.lit (.bool z28))] []) (fun z29t z29 => K (.exit 0) [.rd (.sl z29t z29)] []) p.1 p.2.1 p.2.2.1 p.2.2.2.1 p.2.2.2.2 n v) (fun K p v => rfl) (fun K p n v => rfl) (by kernel_rfl) (v_impl_VersionsOk_0 cs hC)
    (fun K rc p v => st_impl_VersionsOk_0 cs S_impl_keyOk S_impl_between S_impl_RowOk  K rc p v)
def t_impl_VersionsOk (l0 : TL_impl_VersionsOk_0) : ST := (.n none none .o (.n none none (.n none none .o (.n none none (t_impl_VersionsOk_0 (g_impl_VersionsOk_0 l0)) .o)) .o))
def fin_impl_VersionsOk : Option Live := none
theorem fs_impl_VersionsOk (cs) (s_impl_keyOk : T_impl_keyOk) (s_impl_between : T_impl_between) (s_impl_RowOk : T_impl_RowOk) (l0 : TL_impl_VersionsOk_0) (p1t : Bool) (p1 : List (List RD)) (K : List (List DV) → DV → Option FR) :
    denFS (envP PP eqT cs) (tabC (tab_impl_VersionsOk s_impl_keyOk s_impl_between s_impl_RowOk)) (t_impl_VersionsOk l0) fin_impl_VersionsOk (fnO 24) fuel [.ro (.sl p1t p1)] K = F_impl_VersionsOk  l0 p1t p1 (fun r1 => K [] (.ro (.lit (.bool r1)))) := by kernel_rfl
theorem va_impl_VersionsOk (cs) (hC : CsOK (envP PP eqT cs) (tabC (tab_impl_VersionsOk S_impl_keyOk S_impl_between S_impl_RowOk))) : Valid (envP PP eqT cs) fuel (t_impl_VersionsOk G_impl_VersionsOk_0) (bodyOf (fnO 24)) := ⟨⟨trivial, ⟨⟨⟨⟨trivial, ⟨⟨v_impl_VersionsOk_0 cs hC, sg_impl_VersionsOk_0 cs hC⟩, sg_none⟩⟩, sg_none⟩, trivial⟩, sg_none⟩⟩, sg_none⟩
theorem good_impl_VersionsOk : Good PP 24 (C_impl_VersionsOk S_impl_VersionsOk) :=
  good_fn (tab := tab_impl_VersionsOk S_impl_keyOk S_impl_between S_impl_RowOk) hmix heq (Tab.cons good_impl_keyOk (Tab.cons good_impl_between (Tab.cons good_impl_RowOk Tab.nil))) (show PP.funcs[24]? = some (fnO 24) by kernel_rfl) (show takes (fnO 24) = true by kernel_rfl) va_impl_VersionsOk (by
    intro cs args K r h
    unfold C_impl_VersionsOk at h
    replace h := lCons_some h; obtain ⟨a1_, t2_, rfl, h⟩ := h; replace h := dRo_some h; obtain ⟨d3_, rfl, h⟩ := h; replace h := rSl_some h; obtain ⟨p1t, p1, rfl, h⟩ := h; replace h := lNil_some h; obtain ⟨rfl, h⟩ := h
    exact (fs_impl_VersionsOk cs S_impl_keyOk S_impl_between S_impl_RowOk G_impl_VersionsOk_0 _ _ K).trans h)
noncomputable def tab_impl_lastTurn  : List (Nat × SmC) := []
abbrev I_impl_lastTurn_0 := Int × Bool × List (List RD) × Int
abbrev V_impl_lastTurn_0 := Int × Int
def h_impl_lastTurn_0 : Hint := ⟨⟨[(1, 3), (5, 3), (8, 23), (9, 3), (10, 3)], [], []⟩, [(2, ⟨[(5, 3)], [], []⟩)]⟩
def d_impl_lastTurn_0 (a : List AV) (o : List OB) : Option (I_impl_lastTurn_0 × V_impl_lastTurn_0) :=
  lCons a fun a1_ t2_ => aRd a1_ fun d3_ => rInt .i64 d3_ fun v1 => lCons t2_ fun a4_ t5_ => aRd a4_ fun d6_ => rInt .i64 d6_ fun v2 => lCons t5_ fun a7_ t8_ => aRd a7_ fun d9_ => rSl d9_ fun v3t v3 => lCons t8_ fun a10_ t11_ => aRd a10_ fun d12_ => rInt .i64 d12_ fun v4 => lCons t11_ fun a13_ t14_ => aRd a13_ fun d15_ => rInt .i64 d15_ fun v5 => lNil t14_ <| lNil o <|
  some ((v1, v3t, v3, v4), (v2, v5))
def ea_impl_lastTurn_0 (p : I_impl_lastTurn_0) (v : V_impl_lastTurn_0) : List AV := [.rd (.lit (.int .i64 p.1)), .rd (.lit (.int .i64 v.1)), .rd (.sl p.2.1 p.2.2.1), .rd (.lit (.int .i64 p.2.2.2)), .rd (.lit (.int .i64 v.2))]
def eo_impl_lastTurn_0 (p : I_impl_lastTurn_0) (v : V_impl_lastTurn_0) : List OB := []
def g_impl_lastTurn_0 (l : TL_impl_lastTurn_0) : Sg := fun a o K => match d_impl_lastTurn_0 a o with
  | some (p, v) => l (fun z12 => K (.exit 0) [.rd (.lit (.int .i64 z12))] []) p.1 p.2.1 p.2.2.1 p.2.2.2 v.1 v.2
  | none => none
def x_impl_lastTurn_0  : ST := .o
def t_impl_lastTurn_0 (s : Sg) : ST := .n (some h_impl_lastTurn_0) (some s) (x_impl_lastTurn_0 ) .o
theorem st_impl_lastTurn_0 (cs)   (K : Ex → List AV → List OB → Option FR) (rc : List AV → List OB → Option FR) (p : I_impl_lastTurn_0) (v : V_impl_lastTurn_0) :
    denS (envP PP eqT cs) (tabC (tab_impl_lastTurn)) fuel (cAt (bodyOf (fnO 54)) [1, 1, 0, 1, 0, 0]) (x_impl_lastTurn_0 ) (mkSt h_impl_lastTurn_0.live (ea_impl_lastTurn_0 p v) (eo_impl_lastTurn_0 p v)) (fun e st' => match e with
        | .normal => canon (envP PP eqT cs) h_impl_lastTurn_0.live st' rc
        | .exit i => outK (envP PP eqT cs) h_impl_lastTurn_0.outs (.exit i) st' fun a o _ => K (.exit i) a o
        | .ret => outK (envP PP eqT cs) h_impl_lastTurn_0.outs .ret st' fun a o _ => K .ret a o)
      = B_impl_lastTurn_0   (fun z13 => K (.exit 0) [.rd (.lit (.int .i64 z13))] []) p.1 p.2.1 p.2.2.1 p.2.2.2 (fun y0 y1 => rc (ea_impl_lastTurn_0 p (y0, y1)) (eo_impl_lastTurn_0 p (y0, y1))) v.1 v.2 := by kernel_rfl
theorem v_impl_lastTurn_0 (cs) (hC : CsOK (envP PP eqT cs) (tabC (tab_impl_lastTurn))) : Valid (envP PP eqT cs) fuel (x_impl_lastTurn_0 ) (cAt (bodyOf (fnO 54)) [1, 1, 0, 1, 0, 0]) := trivial
theorem sg_impl_lastTurn_0 (cs) (hC : CsOK (envP PP eqT cs) (tabC (tab_impl_lastTurn))) : SgOK (envP PP eqT cs) (t_impl_lastTurn_0  (g_impl_lastTurn_0 G_impl_lastTurn_0)) (fun st K => denLoop (envP PP eqT cs) (hLive (some h_impl_lastTurn_0)) (den (envP PP eqT cs) fuel (cAt (bodyOf (fnO 54)) [1, 1, 0, 1, 0, 0]) (x_impl_lastTurn_0 )) fuel st K) :=
  loop_sg hC d_impl_lastTurn_0 ea_impl_lastTurn_0 eo_impl_lastTurn_0 (fun a o p v h => by unfold d_impl_lastTurn_0 at h; replace h := lCons_some h; obtain ⟨a1_, t2_, rfl, h⟩ := h; replace h := aRd_some h; obtain ⟨d3_, rfl, h⟩ := h; replace h := rInt_some h; obtain ⟨v1, rfl, h⟩ := h; replace h := lCons_some h; obtain ⟨a4_, t5_, rfl, h⟩ := h; replace h := aRd_some h; obtain ⟨d6_, rfl, h⟩ := h; replace h := rInt_some h; obtain ⟨v2, rfl, h⟩ := h; replace h := lCons_some h; obtain ⟨a7_, t8_, rfl, h⟩ := h; replace h := aRd_some h; obtain ⟨d9_, rfl, h⟩ := h; replace h := rSl_some h; obtain ⟨v3t, v3, rfl, h⟩ := h; replace h := lCons_some h; obtain ⟨a10_, t11_, rfl, h⟩ := h; replace h := aRd_some h; obtain ⟨d12_, rfl, h⟩ := h; replace h := rInt_some h; obtain ⟨v4, rfl, h⟩ := h; replace h := lCons_some h; obtain ⟨a13_, t14_, rfl, h⟩ := h; replace h := aRd_some h; obtain ⟨d15_, rfl, h⟩ := h; replace h := rInt_some h; obtain ⟨v5, rfl, h⟩ := h; replace h := lNil_some h; obtain ⟨rfl, h⟩ := h; replace h := lNil_some h; obtain ⟨rfl, h⟩ := h; cases h; exact ⟨rfl, rfl⟩)
    (fun K p rc v => B_impl_lastTurn_0   (fun z13 => K (.exit 0) [.rd (.lit (.int .i64 z13))] []) p.1 p.2.1 p.2.2.1 p.2.2.2 (fun y0 y1 => rc (y0, y1)) v.1 v.2)
    (fun K p n v => L_impl_lastTurn_0   (fun z13 => K (.exit 0) [.rd (.lit (.int .i64 z13))] []) p.1 p.2.1 p.2.2.1 p.2.2.2 n v.1 v.2) (fun K p v => rfl) (fun K p n v => rfl) (by kernel_rfl) (v_impl_lastTurn_0 cs hC)
    (fun K rc p v => st_impl_lastTurn_0 cs   K rc p v)
def t_impl_lastTurn (l0 : TL_impl_lastTurn_0) : ST := (.n none none .o (.n none none .o (.n none none (.n none none .o (.n none none (t_impl_lastTurn_0 (g_impl_lastTurn_0 l0)) .o)) .o)))
def fin_impl_lastTurn : Option Live := none
theorem fs_impl_lastTurn (cs)  (l0 : TL_impl_lastTurn_0) (p1t : Bool) (p1 : List (List RD)) (p2 : Int) (K : List (List DV) → DV → Option FR) :
    denFS (envP PP eqT cs) (tabC (tab_impl_lastTurn)) (t_impl_lastTurn l0) fin_impl_lastTurn (fnO 54) fuel [.ro (.sl p1t p1), .ro (.lit (.int .i64 p2))] K = F_impl_lastTurn  l0 p1t p1 p2 (fun r1 => K [] (.ro (.lit (.int .i64 r1)))) := by kernel_rfl
theorem va_impl_lastTurn (cs) (hC : CsOK (envP PP eqT cs) (tabC (tab_impl_lastTurn))) : Valid (envP PP eqT cs) fuel (t_impl_lastTurn G_impl_lastTurn_0) (bodyOf (fnO 54)) := ⟨⟨trivial, ⟨⟨trivial, ⟨⟨⟨⟨trivial, ⟨⟨v_impl_lastTurn_0 cs hC, sg_impl_lastTurn_0 cs hC⟩, sg_none⟩⟩, sg_none⟩, trivial⟩, sg_none⟩⟩, sg_none⟩⟩, sg_none⟩
theorem good_impl_lastTurn : Good PP 54 (C_impl_lastTurn S_impl_lastTurn) :=
  good_fn (tab := tab_impl_lastTurn) hmix heq Tab.nil (show PP.funcs[54]? = some (fnO 54) by kernel_rfl) (show takes (fnO 54) = true by kernel_rfl) va_impl_lastTurn (by
    intro cs args K r h
    unfold C_impl_lastTurn at h
    replace h := lCons_some h; obtain ⟨a1_, t2_, rfl, h⟩ := h; replace h := dRo_some h; obtain ⟨d3_, rfl, h⟩ := h; replace h := rSl_some h; obtain ⟨p1t, p1, rfl, h⟩ := h; replace h := lCons_some h; obtain ⟨a4_, t5_, rfl, h⟩ := h; replace h := dRo_some h; obtain ⟨d6_, rfl, h⟩ := h; replace h := rInt_some h; obtain ⟨p2, rfl, h⟩ := h; replace h := lNil_some h; obtain ⟨rfl, h⟩ := h
    exact (fs_impl_lastTurn cs  G_impl_lastTurn_0 _ _ _ K).trans h)
noncomputable def tab_impl_turnAny (s_impl_lastTurn : T_impl_lastTurn) : List (Nat × SmC) := [(54, C_impl_lastTurn s_impl_lastTurn)]
abbrev I_impl_turnAny_0 := Bool × List (List RD)
abbrev V_impl_turnAny_0 := Int × Int
def h_impl_turnAny_0 : Hint := ⟨⟨[(0, 23), (3, 3), (5, 3)], [], []⟩, [(2, ⟨[(3, 3)], [], []⟩)]⟩
def d_impl_turnAny_0 (a : List AV) (o : List OB) : Option (I_impl_turnAny_0 × V_impl_turnAny_0) :=
  lCons a fun a1_ t2_ => aRd a1_ fun d3_ => rSl d3_ fun v1t v1 => lCons t2_ fun a4_ t5_ => aRd a4_ fun d6_ => rInt .i64 d6_ fun v2 => lCons t5_ fun a7_ t8_ => aRd a7_ fun d9_ => rInt .i64 d9_ fun v3 => lNil t8_ <| lNil o <|
  some ((v1t, v1), (v2, v3))
def ea_impl_turnAny_0 (p : I_impl_turnAny_0) (v : V_impl_turnAny_0) : List AV := [.rd (.sl p.1 p.2), .rd (.lit (.int .i64 v.1)), .rd (.lit (.int .i64 v.2))]
def eo_impl_turnAny_0 (p : I_impl_turnAny_0) (v : V_impl_turnAny_0) : List OB := []
def g_impl_turnAny_0 (l : TL_impl_turnAny_0) : Sg := fun a o K => match d_impl_turnAny_0 a o with
  | some (p, v) => l (fun z7 => K (.exit 0) [.rd (.lit (.int .i64 z7))] []) p.1 p.2 v.1 v.2
  | none => none
def x_impl_turnAny_0  : ST := .o
def t_impl_turnAny_0 (s : Sg) : ST := .n (some h_impl_turnAny_0) (some s) (x_impl_turnAny_0 ) .o
theorem st_impl_turnAny_0 (cs) (s_impl_lastTurn : T_impl_lastTurn)  (K : Ex → List AV → List OB → Option FR) (rc : List AV → List OB → Option FR) (p : I_impl_turnAny_0) (v : V_impl_turnAny_0) :
    denS (envP PP eqT cs) (tabC (tab_impl_turnAny s_impl_lastTurn)) fuel (cAt (bodyOf (fnO 26)) [1, 1, 0, 1, 0, 0]) (x_impl_turnAny_0 ) (mkSt h_impl_turnAny_0.live (ea_impl_turnAny_0 p v) (eo_impl_turnAny_0 p v)) (fun e st' => match e with
        | .normal => canon (envP PP eqT cs) h_impl_turnAny_0.live st' rc
        | .exit i => outK (envP PP eqT cs) h_impl_turnAny_0.outs (.exit i) st' fun a o _ => K (.exit i) a o
        | .ret => outK (envP PP eqT cs) h_impl_turnAny_0.outs .ret st' fun a o _ => K .ret a o)
      = B_impl_turnAny_0 s_impl_lastTurn  (fun z8 => K (.exit 0) [.rd (.lit (.int .i64 z8))] []) p.1 p.2 (fun y0 y1 => rc (ea_impl_turnAny_0 p (y0, y1)) (eo_impl_turnAny_0 p (y0, y1))) v.1 v.2 := by kernel_rfl
theorem v_impl_turnAny_0 (cs) (hC : CsOK (envP PP eqT cs) (tabC (tab_impl_turnAny S_impl_lastTurn))) : Valid (envP PP eqT cs) fuel (x_impl_turnAny_0 ) (cAt (bodyOf (fnO 26)) [1, 1, 0, 1, 0, 0]) := trivial
theorem sg_impl_turnAny_0 (cs) (hC : CsOK (envP PP eqT cs) (tabC (tab_impl_turnAny S_impl_lastTurn))) : SgOK (envP PP eqT cs) (t_impl_turnAny_0  (g_impl_turnAny_0 G_impl_turnAny_0)) (fun st K => denLoop (envP PP eqT cs) (hLive (some h_impl_turnAny_0)) (den (envP PP eqT cs) fuel (cAt (bodyOf (fnO 26)) [1, 1, 0, 1, 0, 0]) (x_impl_turnAny_0 )) fuel st K) :=
  loop_sg hC d_impl_turnAny_0 ea_impl_turnAny_0 eo_impl_turnAny_0 (fun a o p v h => by unfold d_impl_turnAny_0 at h; replace h := lCons_some h; obtain ⟨a1_, t2_, rfl, h⟩ := h; replace h := aRd_some h; obtain ⟨d3_, rfl, h⟩ := h; replace h := rSl_some h; obtain ⟨v1t, v1, rfl, h⟩ := h; replace h := lCons_some h; obtain ⟨a4_, t5_, rfl, h⟩ := h; replace h := aRd_some h; obtain ⟨d6_, rfl, h⟩ := h; replace h := rInt_some h; obtain ⟨v2, rfl, h⟩ := h; replace h := lCons_some h; obtain ⟨a7_, t8_, rfl, h⟩ := h; replace h := aRd_some h; obtain ⟨d9_, rfl, h⟩ := h; replace h := rInt_some h; obtain ⟨v3, rfl, h⟩ := h; replace h := lNil_some h; obtain ⟨rfl, h⟩ := h; replace h := lNil_some h; obtain ⟨rfl, h⟩ := h; cases h; exact ⟨rfl, rfl⟩)
    (fun K p rc v => B_impl_turnAny_0 S_impl_lastTurn  (fun z8 => K (.exit 0) [.rd (.lit (.int .i64 z8))] []) p.1 p.2 (fun y0 y1 => rc (y0, y1)) v.1 v.2)
    (fun K p n v => L_impl_turnAny_0 S_impl_lastTurn  (fun z8 => K (.exit 0) [.rd (.lit (.int .i64 z8))] []) p.1 p.2 n v.1 v.2) (fun K p v => rfl) (fun K p n v => rfl) (by kernel_rfl) (v_impl_turnAny_0 cs hC)
    (fun K rc p v => st_impl_turnAny_0 cs S_impl_lastTurn  K rc p v)
def t_impl_turnAny (l0 : TL_impl_turnAny_0) : ST := (.n none none .o (.n none none .o (.n none none (.n none none .o (.n none none (t_impl_turnAny_0 (g_impl_turnAny_0 l0)) .o)) .o)))
def fin_impl_turnAny : Option Live := none
theorem fs_impl_turnAny (cs) (s_impl_lastTurn : T_impl_lastTurn) (l0 : TL_impl_turnAny_0) (p1t : Bool) (p1 : List (List RD)) (K : List (List DV) → DV → Option FR) :
    denFS (envP PP eqT cs) (tabC (tab_impl_turnAny s_impl_lastTurn)) (t_impl_turnAny l0) fin_impl_turnAny (fnO 26) fuel [.ro (.sl p1t p1)] K = F_impl_turnAny  l0 p1t p1 (fun r1 => K [] (.ro (.lit (.int .i64 r1)))) := by kernel_rfl
theorem va_impl_turnAny (cs) (hC : CsOK (envP PP eqT cs) (tabC (tab_impl_turnAny S_impl_lastTurn))) : Valid (envP PP eqT cs) fuel (t_impl_turnAny G_impl_turnAny_0) (bodyOf (fnO 26)) := ⟨⟨trivial, ⟨⟨trivial, ⟨⟨⟨⟨trivial, ⟨⟨v_impl_turnAny_0 cs hC, sg_impl_turnAny_0 cs hC⟩, sg_none⟩⟩, sg_none⟩, trivial⟩, sg_none⟩⟩, sg_none⟩⟩, sg_none⟩
theorem good_impl_turnAny : Good PP 26 (C_impl_turnAny S_impl_turnAny) :=
  good_fn (tab := tab_impl_turnAny S_impl_lastTurn) hmix heq (Tab.cons good_impl_lastTurn Tab.nil) (show PP.funcs[26]? = some (fnO 26) by kernel_rfl) (show takes (fnO 26) = true by kernel_rfl) va_impl_turnAny (by
    intro cs args K r h
    unfold C_impl_turnAny at h
    replace h := lCons_some h; obtain ⟨a1_, t2_, rfl, h⟩ := h; replace h := dRo_some h; obtain ⟨d3_, rfl, h⟩ := h; replace h := rSl_some h; obtain ⟨p1t, p1, rfl, h⟩ := h; replace h := lNil_some h; obtain ⟨rfl, h⟩ := h
    exact (fs_impl_turnAny cs S_impl_lastTurn G_impl_turnAny_0 _ _ K).trans h)
noncomputable def tab_impl_rising (s_impl_between : T_impl_between) : List (Nat × SmC) := [(25, C_impl_between s_impl_between)]
abbrev I_impl_rising_0 := Bool × List (List RD) × Int × Int × Bool × List (List RD) × Int
abbrev V_impl_rising_0 := Int
def h_impl_rising_0 : Hint := ⟨⟨[(0, 54), (1, 3), (2, 3), (9, 54), (10, 3), (11, 3)], [], []⟩, [(2, ⟨[], [], []⟩), (1, ⟨[(6, 4)], [], []⟩)]⟩
def d_impl_rising_0 (a : List AV) (o : List OB) : Option (I_impl_rising_0 × V_impl_rising_0) :=
  lCons a fun a1_ t2_ => aRd a1_ fun d3_ => rSl d3_ fun v1t v1 => lCons t2_ fun a4_ t5_ => aRd a4_ fun d6_ => rInt .i64 d6_ fun v2 => lCons t5_ fun a7_ t8_ => aRd a7_ fun d9_ => rInt .i64 d9_ fun v3 => lCons t8_ fun a10_ t11_ => aRd a10_ fun d12_ => rSl d12_ fun v4t v4 => lCons t11_ fun a13_ t14_ => aRd a13_ fun d15_ => rInt .i64 d15_ fun v5 => lCons t14_ fun a16_ t17_ => aRd a16_ fun d18_ => rInt .i64 d18_ fun v6 => lNil t17_ <| lNil o <|
  some ((v1t, v1, v2, v3, v4t, v4, v5), v6)
def ea_impl_rising_0 (p : I_impl_rising_0) (v : V_impl_rising_0) : List AV := [.rd (.sl p.1 p.2.1), .rd (.lit (.int .i64 p.2.2.1)), .rd (.lit (.int .i64 p.2.2.2.1)), .rd (.sl p.2.2.2.2.1 p.2.2.2.2.2.1), .rd (.lit (.int .i64 p.2.2.2.2.2.2)), .rd (.lit (.int .i64 v))]
def eo_impl_rising_0 (p : I_impl_rising_0) (v : V_impl_rising_0) : List OB := []
def g_impl_rising_0 (l : TL_impl_rising_0) : Sg := fun a o K => match d_impl_rising_0 a o with
  | some (p, v) => l (fun z12 => K .ret [.rd (.lit (.bool z12))] []) (K (.exit 0) [] []) p.1 p.2.1 p.2.2.1 p.2.2.2.1 p.2.2.2.2.1 p.2.2.2.2.2.1 p.2.2.2.2.2.2 v
  | none => none
def x_impl_rising_0  : ST := .o
def t_impl_rising_0 (s : Sg) : ST := .n (some h_impl_rising_0) (some s) (x_impl_rising_0 ) .o
theorem st_impl_rising_0 (cs) (s_impl_between : T_impl_between)  (K : Ex → List AV → List OB → Option FR) (rc : List AV → List OB → Option FR) (p : I_impl_rising_0) (v : V_impl_rising_0) :
    denS (envP PP eqT cs) (tabC (tab_impl_rising s_impl_between)) fuel (cAt (bodyOf (fnO 55)) [1, 0, 1, 0, 0]) (x_impl_rising_0 ) (mkSt h_impl_rising_0.live (ea_impl_rising_0 p v) (eo_impl_rising_0 p v)) (fun e st' => match e with
        | .normal => canon (envP PP eqT cs) h_impl_rising_0.live st' rc
        | .exit i => outK (envP PP eqT cs) h_impl_rising_0.outs (.exit i) st' fun a o _ => K (.exit i) a o
        | .ret => outK (envP PP eqT cs) h_impl_rising_0.outs .ret st' fun a o _ => K .ret a o)
      = B_impl_rising_0 s_impl_between  (fun z13 => K .ret [.rd (.lit (.bool z13))] []) (K (.exit 0) [] []) p.1 p.2.1 p.2.2.1 p.2.2.2.1 p.2.2.2.2.1 p.2.2.2.2.2.1 p.2.2.2.2.2.2 (fun y0 => rc (ea_impl_rising_0 p y0) (eo_impl_rising_0 p y0)) v := by kernel_rfl
theorem v_impl_rising_0 (cs) (hC : CsOK (envP PP eqT cs) (tabC (tab_impl_rising S_impl_between))) : Valid (envP PP eqT cs) fuel (x_impl_rising_0 ) (cAt (bodyOf (fnO 55)) [1, 0, 1, 0, 0]) := trivial
theorem sg_impl_rising_0 (cs) (hC : CsOK (envP PP eqT cs) (tabC (tab_impl_rising S_impl_between))) : SgOK (envP PP eqT cs) (t_impl_rising_0  (g_impl_rising_0 G_impl_rising_0)) (fun st K => denLoop (envP PP eqT cs) (hLive (some h_impl_rising_0)) (den (envP PP eqT cs) fuel (cAt (bodyOf (fnO 55)) [1, 0, 1, 0, 0]) (x_impl_rising_0 )) fuel st K) :=
  loop_sg hC d_impl_rising_0 ea_impl_rising_0 eo_impl_rising_0 (fun a o p v h => by unfold d_impl_rising_0 at h; replace h := lCons_some h; obtain ⟨a1_, t2_, rfl, h⟩ := h; replace h := aRd_some h; obtain ⟨d3_, rfl, h⟩ := h; replace h := rSl_some h; obtain ⟨v1t, v1, rfl, h⟩ := h; replace h := lCons_some h; obtain ⟨a4_, t5_, rfl, h⟩ := h; replace h := aRd_some h; obtain ⟨d6_, rfl, h⟩ := h; replace h := rInt_some h; obtain ⟨v2, rfl, h⟩ := h; replace h := lCons_some h; obtain ⟨a7_, t8_, rfl, h⟩ := h; replace h := aRd_some h; obtain ⟨d9_, rfl, h⟩ := h; replace h := rInt_some h; obtain ⟨v3, rfl, h⟩ := h; replace h := lCons_some h; obtain ⟨a10_, t11_, rfl, h⟩ := h; replace h := aRd_some h; obtain ⟨d12_, rfl, h⟩ := h; replace h := rSl_some h; obtain ⟨v4t, v4, rfl, h⟩ := h; replace h := lCons_some h; obtain ⟨a13_, t14_, rfl, h⟩ := h; replace h := aRd_some h; obtain ⟨d15_, rfl, h⟩ := h; replace h := rInt_some h; obtain ⟨v5, rfl, h⟩ := h; replace h := lCons_some h; obtain ⟨a16_, t17_, rfl, h⟩ := h; replace h := aRd_some h; obtain ⟨d18_, rfl, h⟩ := h; replace h := rInt_some h; obtain ⟨v6, rfl, h⟩ := h; replace h := lNil_some h; obtain ⟨rfl, h⟩ := h; replace h := lNil_some h; obtain ⟨rfl, h⟩ := h; cases h; exact ⟨rfl, rfl⟩)
    (fun K p rc v => B_impl_rising_0 S_impl_between  (fun z13 => K .ret [.rd (.lit (.bool z13))] []) (K (.exit 0) [] []) p.1 p.2.1 p.2.2.1 p.2.2.2.1 p.2.2.2.2.1 p.2.2.2.2.2.1 p.2.2.2.2.2.2 (fun y0 => rc y0) v)
    (fun K p n v => L_impl_rising_0 S_impl_between  (fun z13 => K .ret [.rd (.lit (.bool z13))] []) (K (.exit 0) [] []) p.1 p.2.1 p.2.2.1 p.2.2.2.1 p.2.2.2.2.1 p.2.2.2.2.2.1 p.2.2.2.2.2.2 n v) (fun K p v => rfl) (fun K p n v => rfl) (by kernel_rfl) (v_impl_rising_0 cs hC)
    (fun K rc p v => st_impl_rising_0 cs S_impl_between  K rc p v)
def t_impl_rising (l0 : TL_impl_rising_0) : ST := (.n none none .o (.n none none (.n none none .o (.n none none (t_impl_rising_0 (g_impl_rising_0 l0)) .o)) .o))
def fin_impl_rising : Option Live := none
theorem fs_impl_rising (cs) (s_impl_between : T_impl_between) (l0 : TL_impl_rising_0) (p1t : Bool) (p1 : List (List RD)) (p2 : Int) (p3 : Int) (K : List (List DV) → DV → Option FR) :
    denFS (envP PP eqT cs) (tabC (tab_impl_rising s_impl_between)) (t_impl_rising l0) fin_impl_rising (fnO 55) fuel [.ro (.sl p1t p1), .ro (.lit (.int .i64 p2)), .ro (.lit (.int .i64 p3))] K = F_impl_rising  l0 p1t p1 p2 p3 (fun r1 => K [] (.ro (.lit (.bool r1)))) := by kernel_rfl
theorem va_impl_rising (cs) (hC : CsOK (envP PP eqT cs) (tabC (tab_impl_rising S_impl_between))) : Valid (envP PP eqT cs) fuel (t_impl_rising G_impl_rising_0) (bodyOf (fnO 55)) := ⟨⟨trivial, ⟨⟨⟨⟨trivial, ⟨⟨v_impl_rising_0 cs hC, sg_impl_rising_0 cs hC⟩, sg_none⟩⟩, sg_none⟩, trivial⟩, sg_none⟩⟩, sg_none⟩
theorem good_impl_rising : Good PP 55 (C_impl_rising S_impl_rising) :=
  good_fn (tab := tab_impl_rising S_impl_between) hmix heq (Tab.cons good_impl_between Tab.nil) (show PP.funcs[55]? = some (fnO 55) by kernel_rfl) (show takes (fnO 55) = true by kernel_rfl) va_impl_rising (by
    intro cs args K r h
    unfold C_impl_rising at h
    replace h := lCons_some h; obtain ⟨a1_, t2_, rfl, h⟩ := h; replace h := dRo_some h; obtain ⟨d3_, rfl, h⟩ := h; replace h := rSl_some h; obtain ⟨p1t, p1, rfl, h⟩ := h; replace h := lCons_some h; obtain ⟨a4_, t5_, rfl, h⟩ := h; replace h := dRo_some h; obtain ⟨d6_, rfl, h⟩ := h; replace h := rInt_some h; obtain ⟨p2, rfl, h⟩ := h; replace h := lCons_some h; obtain ⟨a7_, t8_, rfl, h⟩ := h; replace h := dRo_some h; obtain ⟨d9_, rfl, h⟩ := h; replace h := rInt_some h; obtain ⟨p3, rfl, h⟩ := h; replace h := lNil_some h; obtain ⟨rfl, h⟩ := h
    exact (fs_impl_rising cs S_impl_between G_impl_rising_0 _ _ _ _ K).trans h)
noncomputable def tab_impl_WritesOk (s_impl_keyOk : T_impl_keyOk) (s_impl_RowOk : T_impl_RowOk) : List (Nat × SmC) := [(52, C_impl_keyOk s_impl_keyOk), (53, C_impl_RowOk s_impl_RowOk)]
abbrev I_impl_WritesOk_0 := Bool × List (List RD) × Bool × List (List RD) × Int
abbrev V_impl_WritesOk_0 := Int
def h_impl_WritesOk_0 : Hint := ⟨⟨[(0, 55), (5, 55), (6, 3), (7, 3)], [], []⟩, [(2, ⟨[(0, 55)], [], []⟩), (1, ⟨[(2, 4)], [], []⟩)]⟩
def d_impl_WritesOk_0 (a : List AV) (o : List OB) : Option (I_impl_WritesOk_0 × V_impl_WritesOk_0) :=
  lCons a fun a1_ t2_ => aRd a1_ fun d3_ => rSl d3_ fun v1t v1 => lCons t2_ fun a4_ t5_ => aRd a4_ fun d6_ => rSl d6_ fun v2t v2 => lCons t5_ fun a7_ t8_ => aRd a7_ fun d9_ => rInt .i64 d9_ fun v3 => lCons t8_ fun a10_ t11_ => aRd a10_ fun d12_ => rInt .i64 d12_ fun v4 => lNil t11_ <| lNil o <|
  some ((v1t, v1, v2t, v2, v3), v4)
def ea_impl_WritesOk_0 (p : I_impl_WritesOk_0) (v : V_impl_WritesOk_0) : List AV := [.rd (.sl p.1 p.2.1), .rd (.sl p.2.2.1 p.2.2.2.1), .rd (.lit (.int .i64 p.2.2.2.2)), .rd (.lit (.int .i64 v))]
def eo_impl_WritesOk_0 (p : I_impl_WritesOk_0) (v : V_impl_WritesOk_0) : List OB := []
def g_impl_WritesOk_0 (l : TL_impl_WritesOk_0) : Sg := fun a o K => match d_impl_WritesOk_0 a o with
  | some (p, v) => l (fun z20 => K .ret [.rd (.lit (.bool z20))] []) (fun z21t z21 => K (.exit 0) [.rd (.sl z21t z21)] []) p.1 p.2.1 p.2.2.1 p.2.2.2.1 p.2.2.2.2 v
  | none => none
def x_impl_WritesOk_0  : ST := .o
def t_impl_WritesOk_0 (s : Sg) : ST := .n (some h_impl_WritesOk_0) (some s) (x_impl_WritesOk_0 ) .o
theorem st_impl_WritesOk_0 (cs) (s_impl_keyOk : T_impl_keyOk) (s_impl_RowOk : T_impl_RowOk)  (K : Ex → List AV → List OB → Option FR) (rc : List AV → List OB → Option FR) (p : I_impl_WritesOk_0) (v : V_impl_WritesOk_0) :
    denS (envP PP eqT cs) (tabC (tab_impl_WritesOk s_impl_keyOk s_impl_RowOk)) fuel (cAt (bodyOf (fnO 56)) [1, 0, 1, 0, 0]) (x_impl_WritesOk_0 ) (mkSt h_impl_WritesOk_0.live (ea_impl_WritesOk_0 p v) (eo_impl_WritesOk_0 p v)) (fun e st' => match e with
        | .normal => canon (envP PP eqT cs) h_impl_WritesOk_0.live st' rc
        | .exit i => outK (envP PP eqT cs) h_impl_WritesOk_0.outs (.exit i) st' fun a o _ => K (.exit i) a o
        | .ret => outK (envP PP eqT cs) h_impl_WritesOk_0.outs .ret st' fun a o _ => K .ret a o)
      = B_impl_WritesOk_0 s_impl_keyOk s_impl_RowOk  (fun z22 => K .ret [.rd (.lit (.bool z22))] []) (fun z23t z23 => K (.exit 0) [.rd (.sl z23t z23)] []) p.1 p.2.1 p.2.2.1 p.2.2.2.1 p.2.2.2.2 (fun y0 => rc (ea_impl_WritesOk_0 p y0) (eo_impl_WritesOk_0 p y0)) v := by kernel_rfl
theorem v_impl_WritesOk_0 (cs) (hC : CsOK (envP PP eqT cs) (tabC (tab_impl_WritesOk S_impl_keyOk S_impl_RowOk))) : Valid (envP PP eqT cs) fuel (x_impl_WritesOk_0 ) (cAt (bodyOf (fnO 56)) [1, 0, 1, 0, 0]) := trivial
theorem sg_impl_WritesOk_0 (cs) (hC : CsOK (envP PP eqT cs) (tabC (tab_impl_WritesOk S_impl_keyOk S_impl_RowOk))) : SgOK (envP PP eqT cs) (t_impl_WritesOk_0  (g_impl_WritesOk_0 G_impl_WritesOk_0)) (fun st K => denLoop (envP PP eqT cs) (hLive (some h_impl_WritesOk_0)) (den (envP PP eqT cs) fuel (cAt (bodyOf (fnO 56)) [1, 0, 1, 0, 0]) (x_impl_WritesOk_0 )) fuel st K) :=
  loop_sg hC d_impl_WritesOk_0 ea_impl_WritesOk_0 eo_impl_WritesOk_0 (fun a o p v h => by unfold d_impl_WritesOk_0 at h; replace h := lCons_some h; obtain ⟨a1_, t2_, rfl, h⟩ := h; replace h := aRd_some h; obtain ⟨d3_, rfl, h⟩ := h; replace h := rSl_some h; obtain ⟨v1t, v1, rfl, h⟩ := h; replace h := lCons_some h; obtain ⟨a4_, t5_, rfl, h⟩ := h; replace h := aRd_some h; obtain ⟨d6_, rfl, h⟩ := h; replace h := rSl_some h; obtain ⟨v2t, v2, rfl, h⟩ := h; replace h := lCons_some h; obtain ⟨a7_, t8_, rfl, h⟩ := h; replace h := aRd_some h; obtain ⟨d9_, rfl, h⟩ := h; replace h := rInt_some h; obtain ⟨v3, rfl, h⟩ := h; replace h := lCons_some h; obtain ⟨a10_, t11_, rfl, h⟩ := h; replace h := aRd_some h; obtain ⟨d12_, rfl, h⟩ := h; replace h := rInt_some h; obtain ⟨v4, rfl, h⟩ := h; replace h := lNil_some h; obtain ⟨rfl, h⟩ := h; replace h := lNil_some h; obtain ⟨rfl, h⟩ := h; cases h; exact ⟨rfl, rfl⟩)
    (fun K p rc v => B_impl_WritesOk_0 S_impl_keyOk S_impl_RowOk  (fun z22 => K .ret [.rd (.lit (.bool z22))] []) (fun z23t z23 => K (.exit 0) [.rd (.sl z23t z23)] []) p.1 p.2.1 p.2.2.1 p.2.2.2.1 p.2.2.2.2 (fun y0 => rc y0) v)
    (fun K p n v => L_impl_WritesOk_0 S_impl_keyOk S_impl_RowOk  (fun z22 => K .ret [.rd (.lit (.bool z22))] []) (fun z23t z23 => K (.exit 0) [.rd (.sl z23t z23)] []) p.1 p.2.1 p.2.2.1 p.2.2.2.1 p.2.2.2.2 n v) (fun K p v => rfl) (fun K p n v => rfl) (by kernel_rfl) (v_impl_WritesOk_0 cs hC)
    (fun K rc p v => st_impl_WritesOk_0 cs S_impl_keyOk S_impl_RowOk  K rc p v)
def t_impl_WritesOk (l0 : TL_impl_WritesOk_0) : ST := (.n none none .o (.n none none (.n none none .o (.n none none (t_impl_WritesOk_0 (g_impl_WritesOk_0 l0)) .o)) .o))
def fin_impl_WritesOk : Option Live := none
theorem fs_impl_WritesOk (cs) (s_impl_keyOk : T_impl_keyOk) (s_impl_RowOk : T_impl_RowOk) (l0 : TL_impl_WritesOk_0) (p1t : Bool) (p1 : List (List RD)) (K : List (List DV) → DV → Option FR) :
    denFS (envP PP eqT cs) (tabC (tab_impl_WritesOk s_impl_keyOk s_impl_RowOk)) (t_impl_WritesOk l0) fin_impl_WritesOk (fnO 56) fuel [.ro (.sl p1t p1)] K = F_impl_WritesOk  l0 p1t p1 (fun r1 => K [] (.ro (.lit (.bool r1)))) := by kernel_rfl
theorem va_impl_WritesOk (cs) (hC : CsOK (envP PP eqT cs) (tabC (tab_impl_WritesOk S_impl_keyOk S_impl_RowOk))) : Valid (envP PP eqT cs) fuel (t_impl_WritesOk G_impl_WritesOk_0) (bodyOf (fnO 56)) := ⟨⟨trivial, ⟨⟨⟨⟨trivial, ⟨⟨v_impl_WritesOk_0 cs hC, sg_impl_WritesOk_0 cs hC⟩, sg_none⟩⟩, sg_none⟩, trivial⟩, sg_none⟩⟩, sg_none⟩
theorem good_impl_WritesOk : Good PP 56 (C_impl_WritesOk S_impl_WritesOk) :=
  good_fn (tab := tab_impl_WritesOk S_impl_keyOk S_impl_RowOk) hmix heq (Tab.cons good_impl_keyOk (Tab.cons good_impl_RowOk Tab.nil)) (show PP.funcs[56]? = some (fnO 56) by kernel_rfl) (show takes (fnO 56) = true by kernel_rfl) va_impl_WritesOk (by
    intro cs args K r h
    unfold C_impl_WritesOk at h
    replace h := lCons_some h; obtain ⟨a1_, t2_, rfl, h⟩ := h; replace h := dRo_some h; obtain ⟨d3_, rfl, h⟩ := h; replace h := rSl_some h; obtain ⟨p1t, p1, rfl, h⟩ := h; replace h := lNil_some h; obtain ⟨rfl, h⟩ := h
    exact (fs_impl_WritesOk cs S_impl_keyOk S_impl_RowOk G_impl_WritesOk_0 _ _ K).trans h)
noncomputable def tab_impl_Txn_ok (s_impl_between : T_impl_between) (s_impl_rising : T_impl_rising) (s_impl_WritesOk : T_impl_WritesOk) : List (Nat × SmC) := [(25, C_impl_between s_impl_between), (55, C_impl_rising s_impl_rising), (56, C_impl_WritesOk s_impl_WritesOk)]
def t_impl_Txn_ok  : ST := .o
def fin_impl_Txn_ok : Option Live := none
theorem fs_impl_Txn_ok (cs) (s_impl_between : T_impl_between) (s_impl_rising : T_impl_rising) (s_impl_WritesOk : T_impl_WritesOk)  (p1 : Int) (p2 : Int) (p3 : Int) (p4t : Bool) (p4 : List (List RD)) (p5t : Bool) (p5 : List (List RD)) (p6 : Int) (K : List (List DV) → DV → Option FR) :
    denFS (envP PP eqT cs) (tabC (tab_impl_Txn_ok s_impl_between s_impl_rising s_impl_WritesOk)) (t_impl_Txn_ok ) fin_impl_Txn_ok (fnO 27) fuel [.agg [.ro (.lit (.int .i64 p1)), .ro (.lit (.int .i64 p2)), .ro (.lit (.int .i64 p3)), .ro (.sl p4t p4), .ro (.sl p5t p5)], .ro (.lit (.int .i64 p6))] K = F_impl_Txn_ok s_impl_between s_impl_rising s_impl_WritesOk  p1 p2 p3 p4t p4 p5t p5 p6 (fun r1 => K [] (.ro (.lit (.bool r1)))) := by kernel_rfl
theorem va_impl_Txn_ok (cs) (hC : CsOK (envP PP eqT cs) (tabC (tab_impl_Txn_ok S_impl_between S_impl_rising S_impl_WritesOk))) : Valid (envP PP eqT cs) fuel (t_impl_Txn_ok ) (bodyOf (fnO 27)) := trivial
theorem good_impl_Txn_ok : Good PP 27 (C_impl_Txn_ok S_impl_Txn_ok) :=
  good_fn (tab := tab_impl_Txn_ok S_impl_between S_impl_rising S_impl_WritesOk) hmix heq (Tab.cons good_impl_between (Tab.cons good_impl_rising (Tab.cons good_impl_WritesOk Tab.nil))) (show PP.funcs[27]? = some (fnO 27) by kernel_rfl) (show takes (fnO 27) = true by kernel_rfl) va_impl_Txn_ok (by
    intro cs args K r h
    unfold C_impl_Txn_ok at h
    replace h := lCons_some h; obtain ⟨a1_, t2_, rfl, h⟩ := h; replace h := dAgg_some h; obtain ⟨c3_, rfl, h⟩ := h; replace h := lCons_some h; obtain ⟨a4_, t5_, rfl, h⟩ := h; replace h := dRo_some h; obtain ⟨d6_, rfl, h⟩ := h; replace h := rInt_some h; obtain ⟨p1, rfl, h⟩ := h; replace h := lCons_some h; obtain ⟨a7_, t8_, rfl, h⟩ := h; replace h := dRo_some h; obtain ⟨d9_, rfl, h⟩ := h; replace h := rInt_some h; obtain ⟨p2, rfl, h⟩ := h; replace h := lCons_some h; obtain ⟨a10_, t11_, rfl, h⟩ := h; replace h := dRo_some h; obtain ⟨d12_, rfl, h⟩ := h; replace h := rInt_some h; obtain ⟨p3, rfl, h⟩ := h; replace h := lCons_some h; obtain ⟨a13_, t14_, rfl, h⟩ := h; replace h := dRo_some h; obtain ⟨d15_, rfl, h⟩ := h; replace h := rSl_some h; obtain ⟨p4t, p4, rfl, h⟩ := h; replace h := lCons_some h; obtain ⟨a16_, t17_, rfl, h⟩ := h; replace h := dRo_some h; obtain ⟨d18_, rfl, h⟩ := h; replace h := rSl_some h; obtain ⟨p5t, p5, rfl, h⟩ := h; replace h := lNil_some h; obtain ⟨rfl, h⟩ := h; replace h := lCons_some h; obtain ⟨a19_, t20_, rfl, h⟩ := h; replace h := dRo_some h; obtain ⟨d21_, rfl, h⟩ := h; replace h := rInt_some h; obtain ⟨p6, rfl, h⟩ := h; replace h := lNil_some h; obtain ⟨rfl, h⟩ := h
    exact (fs_impl_Txn_ok cs S_impl_between S_impl_rising S_impl_WritesOk  _ _ _ _ _ _ _ _ K).trans h)
noncomputable def tab_impl_HouseOk (s_impl_Txn_ok : T_impl_Txn_ok) (s_impl_VersionsOk : T_impl_VersionsOk) (s_impl_between : T_impl_between) (s_impl_turnAny : T_impl_turnAny) : List (Nat × SmC) := [(27, C_impl_Txn_ok s_impl_Txn_ok), (24, C_impl_VersionsOk s_impl_VersionsOk), (25, C_impl_between s_impl_between), (26, C_impl_turnAny s_impl_turnAny)]
abbrev I_impl_HouseOk_0 := Bool × List (List RD) × Int × Bool × List (List RD) × Int × Bool × List (List RD)
abbrev V_impl_HouseOk_0 := Int × List (Int × Value)
def h_impl_HouseOk_0 : Hint := ⟨⟨[(1, 0), (3, 53), (32, 24), (33, 3), (34, 3)], [], []⟩, [(2, ⟨[], [], []⟩), (1, ⟨[(2, 4)], [], []⟩)]⟩
def d_impl_HouseOk_0 (a : List AV) (o : List OB) : Option (I_impl_HouseOk_0 × V_impl_HouseOk_0) :=
  lCons a fun a1_ t2_ => aBref 0 0 a1_ <| lCons t2_ fun a3_ t4_ => aMref 1 a3_ <| lCons t4_ fun a5_ t6_ => aRd a5_ fun d7_ => rSl d7_ fun v4t v4 => lCons t6_ fun a8_ t9_ => aRd a8_ fun d10_ => rInt .i64 d10_ fun v5 => lCons t9_ fun a11_ t12_ => aRd a11_ fun d13_ => rInt .i64 d13_ fun v6 => lNil t12_ <| lCons o fun a14_ t15_ => oBox 26 false a14_ fun c16_ => lCons c16_ fun a17_ t18_ => aRd a17_ fun d19_ => rSl d19_ fun v7t v7 => lCons t18_ fun a20_ t21_ => aRd a20_ fun d22_ => rInt .i64 d22_ fun v8 => lCons t21_ fun a23_ t24_ => aRd a23_ fun d25_ => rSl d25_ fun v9t v9 => lNil t24_ <| lCons t15_ fun a26_ t27_ => oMap false a26_ fun v10m => lNil t27_ <|
  some ((v4t, v4, v5, v7t, v7, v8, v9t, v9), (v6, v10m))
def ea_impl_HouseOk_0 (p : I_impl_HouseOk_0) (v : V_impl_HouseOk_0) : List AV := [.bref 0 0, .mref 1, .rd (.sl p.1 p.2.1), .rd (.lit (.int .i64 p.2.2.1)), .rd (.lit (.int .i64 v.1))]
def eo_impl_HouseOk_0 (p : I_impl_HouseOk_0) (v : V_impl_HouseOk_0) : List OB := [(some (.box 26 [.rd (.sl p.2.2.2.1 p.2.2.2.2.1), .rd (.lit (.int .i64 p.2.2.2.2.2.1)), .rd (.sl p.2.2.2.2.2.2.1 p.2.2.2.2.2.2.2)]), false), (some (.map v.2), false)]
def g_impl_HouseOk_0 (l : TL_impl_HouseOk_0) : Sg := fun a o K => match d_impl_HouseOk_0 a o with
  | some (p, v) => l (fun z20 => K .ret [.rd (.lit (.bool z20))] []) (K (.exit 0) [] []) p.1 p.2.1 p.2.2.1 p.2.2.2.1 p.2.2.2.2.1 p.2.2.2.2.2.1 p.2.2.2.2.2.2.1 p.2.2.2.2.2.2.2 v.1 v.2
  | none => none
def x_impl_HouseOk_0  : ST := .o
def t_impl_HouseOk_0 (s : Sg) : ST := .n (some h_impl_HouseOk_0) (some s) (x_impl_HouseOk_0 ) .o
theorem st_impl_HouseOk_0 (cs) (s_impl_Txn_ok : T_impl_Txn_ok) (s_impl_VersionsOk : T_impl_VersionsOk) (s_impl_between : T_impl_between) (s_impl_turnAny : T_impl_turnAny)  (K : Ex → List AV → List OB → Option FR) (rc : List AV → List OB → Option FR) (p : I_impl_HouseOk_0) (v : V_impl_HouseOk_0) :
    denS (envP PP eqT cs) (tabC (tab_impl_HouseOk s_impl_Txn_ok s_impl_VersionsOk s_impl_between s_impl_turnAny)) fuel (cAt (bodyOf (fnO 9)) [1, 1, 1, 0, 1, 0, 0]) (x_impl_HouseOk_0 ) (mkSt h_impl_HouseOk_0.live (ea_impl_HouseOk_0 p v) (eo_impl_HouseOk_0 p v)) (fun e st' => match e with
        | .normal => canon (envP PP eqT cs) h_impl_HouseOk_0.live st' rc
        | .exit i => outK (envP PP eqT cs) h_impl_HouseOk_0.outs (.exit i) st' fun a o _ => K (.exit i) a o
        | .ret => outK (envP PP eqT cs) h_impl_HouseOk_0.outs .ret st' fun a o _ => K .ret a o)
      = B_impl_HouseOk_0 s_impl_Txn_ok  (fun z21 => K .ret [.rd (.lit (.bool z21))] []) (K (.exit 0) [] []) p.1 p.2.1 p.2.2.1 p.2.2.2.1 p.2.2.2.2.1 p.2.2.2.2.2.1 p.2.2.2.2.2.2.1 p.2.2.2.2.2.2.2 (fun y0 y1 => rc (ea_impl_HouseOk_0 p (y0, y1)) (eo_impl_HouseOk_0 p (y0, y1))) v.1 v.2 := by kernel_rfl
theorem v_impl_HouseOk_0 (cs) (hC : CsOK (envP PP eqT cs) (tabC (tab_impl_HouseOk S_impl_Txn_ok S_impl_VersionsOk S_impl_between S_impl_turnAny))) : Valid (envP PP eqT cs) fuel (x_impl_HouseOk_0 ) (cAt (bodyOf (fnO 9)) [1, 1, 1, 0, 1, 0, 0]) := trivial
theorem sg_impl_HouseOk_0 (cs) (hC : CsOK (envP PP eqT cs) (tabC (tab_impl_HouseOk S_impl_Txn_ok S_impl_VersionsOk S_impl_between S_impl_turnAny))) : SgOK (envP PP eqT cs) (t_impl_HouseOk_0  (g_impl_HouseOk_0 G_impl_HouseOk_0)) (fun st K => denLoop (envP PP eqT cs) (hLive (some h_impl_HouseOk_0)) (den (envP PP eqT cs) fuel (cAt (bodyOf (fnO 9)) [1, 1, 1, 0, 1, 0, 0]) (x_impl_HouseOk_0 )) fuel st K) :=
  loop_sg hC d_impl_HouseOk_0 ea_impl_HouseOk_0 eo_impl_HouseOk_0 (fun a o p v h => by unfold d_impl_HouseOk_0 at h; replace h := lCons_some h; obtain ⟨a1_, t2_, rfl, h⟩ := h; replace h := aBref_some h; obtain ⟨rfl, h⟩ := h; replace h := lCons_some h; obtain ⟨a3_, t4_, rfl, h⟩ := h; replace h := aMref_some h; obtain ⟨rfl, h⟩ := h; replace h := lCons_some h; obtain ⟨a5_, t6_, rfl, h⟩ := h; replace h := aRd_some h; obtain ⟨d7_, rfl, h⟩ := h; replace h := rSl_some h; obtain ⟨v4t, v4, rfl, h⟩ := h; replace h := lCons_some h; obtain ⟨a8_, t9_, rfl, h⟩ := h; replace h := aRd_some h; obtain ⟨d10_, rfl, h⟩ := h; replace h := rInt_some h; obtain ⟨v5, rfl, h⟩ := h; replace h := lCons_some h; obtain ⟨a11_, t12_, rfl, h⟩ := h; replace h := aRd_some h; obtain ⟨d13_, rfl, h⟩ := h; replace h := rInt_some h; obtain ⟨v6, rfl, h⟩ := h; replace h := lNil_some h; obtain ⟨rfl, h⟩ := h; replace h := lCons_some h; obtain ⟨a14_, t15_, rfl, h⟩ := h; replace h := oBox_some h; obtain ⟨c16_, rfl, h⟩ := h; replace h := lCons_some h; obtain ⟨a17_, t18_, rfl, h⟩ := h; replace h := aRd_some h; obtain ⟨d19_, rfl, h⟩ := h; replace h := rSl_some h; obtain ⟨v7t, v7, rfl, h⟩ := h; replace h := lCons_some h; obtain ⟨a20_, t21_, rfl, h⟩ := h; replace h := aRd_some h; obtain ⟨d22_, rfl, h⟩ := h; replace h := rInt_some h; obtain ⟨v8, rfl, h⟩ := h; replace h := lCons_some h; obtain ⟨a23_, t24_, rfl, h⟩ := h; replace h := aRd_some h; obtain ⟨d25_, rfl, h⟩ := h; replace h := rSl_some h; obtain ⟨v9t, v9, rfl, h⟩ := h; replace h := lNil_some h; obtain ⟨rfl, h⟩ := h; replace h := lCons_some h; obtain ⟨a26_, t27_, rfl, h⟩ := h; replace h := oMap_some h; obtain ⟨v10m, rfl, h⟩ := h; replace h := lNil_some h; obtain ⟨rfl, h⟩ := h; cases h; exact ⟨rfl, rfl⟩)
    (fun K p rc v => B_impl_HouseOk_0 S_impl_Txn_ok  (fun z21 => K .ret [.rd (.lit (.bool z21))] []) (K (.exit 0) [] []) p.1 p.2.1 p.2.2.1 p.2.2.2.1 p.2.2.2.2.1 p.2.2.2.2.2.1 p.2.2.2.2.2.2.1 p.2.2.2.2.2.2.2 (fun y0 y1 => rc (y0, y1)) v.1 v.2)
    (fun K p n v => L_impl_HouseOk_0 S_impl_Txn_ok  (fun z21 => K .ret [.rd (.lit (.bool z21))] []) (K (.exit 0) [] []) p.1 p.2.1 p.2.2.1 p.2.2.2.1 p.2.2.2.2.1 p.2.2.2.2.2.1 p.2.2.2.2.2.2.1 p.2.2.2.2.2.2.2 n v.1 v.2) (fun K p v => rfl) (fun K p n v => rfl) (by kernel_rfl) (v_impl_HouseOk_0 cs hC)
    (fun K rc p v => st_impl_HouseOk_0 cs S_impl_Txn_ok S_impl_VersionsOk S_impl_between S_impl_turnAny  K rc p v)
def t_impl_HouseOk (l0 : TL_impl_HouseOk_0) : ST := (.n none none .o (.n none none .o (.n none none .o (.n none none (.n none none .o (.n none none (t_impl_HouseOk_0 (g_impl_HouseOk_0 l0)) .o)) .o))))
def fin_impl_HouseOk : Option Live := none
theorem fs_impl_HouseOk (cs) (s_impl_Txn_ok : T_impl_Txn_ok) (s_impl_VersionsOk : T_impl_VersionsOk) (s_impl_between : T_impl_between) (s_impl_turnAny : T_impl_turnAny) (l0 : TL_impl_HouseOk_0) (p1t : Bool) (p1 : List (List RD)) (p2 : Int) (p3t : Bool) (p3 : List (List RD)) (K : List (List DV) → DV → Option FR) :
    denFS (envP PP eqT cs) (tabC (tab_impl_HouseOk s_impl_Txn_ok s_impl_VersionsOk s_impl_between s_impl_turnAny)) (t_impl_HouseOk l0) fin_impl_HouseOk (fnO 9) fuel [.agg [.ro (.sl p1t p1), .ro (.lit (.int .i64 p2)), .ro (.sl p3t p3)]] K = F_impl_HouseOk s_impl_VersionsOk s_impl_between s_impl_turnAny l0 p1t p1 p2 p3t p3 (fun r1 => K [] (.ro (.lit (.bool r1)))) := by kernel_rfl
theorem va_impl_HouseOk (cs) (hC : CsOK (envP PP eqT cs) (tabC (tab_impl_HouseOk S_impl_Txn_ok S_impl_VersionsOk S_impl_between S_impl_turnAny))) : Valid (envP PP eqT cs) fuel (t_impl_HouseOk G_impl_HouseOk_0) (bodyOf (fnO 9)) := ⟨⟨trivial, ⟨⟨trivial, ⟨⟨trivial, ⟨⟨⟨⟨trivial, ⟨⟨v_impl_HouseOk_0 cs hC, sg_impl_HouseOk_0 cs hC⟩, sg_none⟩⟩, sg_none⟩, trivial⟩, sg_none⟩⟩, sg_none⟩⟩, sg_none⟩⟩, sg_none⟩
theorem good_impl_HouseOk : Good PP 9 (C_impl_HouseOk S_impl_HouseOk) :=
  good_fn (tab := tab_impl_HouseOk S_impl_Txn_ok S_impl_VersionsOk S_impl_between S_impl_turnAny) hmix heq (Tab.cons good_impl_Txn_ok (Tab.cons good_impl_VersionsOk (Tab.cons good_impl_between (Tab.cons good_impl_turnAny Tab.nil)))) (show PP.funcs[9]? = some (fnO 9) by kernel_rfl) (show takes (fnO 9) = true by kernel_rfl) va_impl_HouseOk (by
    intro cs args K r h
    unfold C_impl_HouseOk at h
    replace h := lCons_some h; obtain ⟨a1_, t2_, rfl, h⟩ := h; replace h := dAgg_some h; obtain ⟨c3_, rfl, h⟩ := h; replace h := lCons_some h; obtain ⟨a4_, t5_, rfl, h⟩ := h; replace h := dRo_some h; obtain ⟨d6_, rfl, h⟩ := h; replace h := rSl_some h; obtain ⟨p1t, p1, rfl, h⟩ := h; replace h := lCons_some h; obtain ⟨a7_, t8_, rfl, h⟩ := h; replace h := dRo_some h; obtain ⟨d9_, rfl, h⟩ := h; replace h := rInt_some h; obtain ⟨p2, rfl, h⟩ := h; replace h := lCons_some h; obtain ⟨a10_, t11_, rfl, h⟩ := h; replace h := dRo_some h; obtain ⟨d12_, rfl, h⟩ := h; replace h := rSl_some h; obtain ⟨p3t, p3, rfl, h⟩ := h; replace h := lNil_some h; obtain ⟨rfl, h⟩ := h; replace h := lNil_some h; obtain ⟨rfl, h⟩ := h
    exact (fs_impl_HouseOk cs S_impl_Txn_ok S_impl_VersionsOk S_impl_between S_impl_turnAny G_impl_HouseOk_0 _ _ _ _ _ K).trans h)
end
end Go.Den
end
section
namespace Go.Den
open Go Go.Proofs
noncomputable section
set_option linter.unusedVariables false
set_option maxRecDepth 100000
noncomputable def tab_impl_seen  : List (Nat × SmC) := []
abbrev I_impl_seen_0 := Int × Int × Bool × List (List RD) × Int × Int × Int × Int × Bool × List (List RD)
abbrev V_impl_seen_0 := Int
def h_impl_seen_0 : Hint := ⟨⟨[(1, 3), (2, 3), (6, 0), (10, 23), (11, 3), (12, 3)], [], []⟩, [(2, ⟨[(6, 0)], [], []⟩), (1, ⟨[(6, 0), (7, 4)], [], []⟩)]⟩
def d_impl_seen_0 (a : List AV) (o : List OB) : Option (I_impl_seen_0 × V_impl_seen_0) :=
  lCons a fun a1_ t2_ => aRd a1_ fun d3_ => rInt .i64 d3_ fun v1 => lCons t2_ fun a4_ t5_ => aRd a4_ fun d6_ => rInt .i64 d6_ fun v2 => lCons t5_ fun a7_ t8_ => aBref 0 0 a7_ <| lCons t8_ fun a9_ t10_ => aRd a9_ fun d11_ => rSl d11_ fun v3t v3 => lCons t10_ fun a12_ t13_ => aRd a12_ fun d14_ => rInt .i64 d14_ fun v4 => lCons t13_ fun a15_ t16_ => aRd a15_ fun d17_ => rInt .i64 d17_ fun v5 => lNil t16_ <| lCons o fun a18_ t19_ => oBox 63 false a18_ fun c20_ => lCons c20_ fun a21_ t22_ => aRd a21_ fun d23_ => rInt .i64 d23_ fun v6 => lCons t22_ fun a24_ t25_ => aRd a24_ fun d26_ => rInt .i64 d26_ fun v7 => lCons t25_ fun a27_ t28_ => aRd a27_ fun d29_ => rInt .i64 d29_ fun v8 => lCons t28_ fun a30_ t31_ => aRef 1 a30_ fun v9t => lNil t31_ <| lCons t19_ fun a32_ t33_ => oArr 3 true false a32_ fun v10 => lNil t33_ <|
  some ((v1, v2, v3t, v3, v4, v6, v7, v8, v9t, v10), v5)
def ea_impl_seen_0 (p : I_impl_seen_0) (v : V_impl_seen_0) : List AV := [.rd (.lit (.int .i64 p.1)), .rd (.lit (.int .i64 p.2.1)), .bref 0 0, .rd (.sl p.2.2.1 p.2.2.2.1), .rd (.lit (.int .i64 p.2.2.2.2.1)), .rd (.lit (.int .i64 v))]
def eo_impl_seen_0 (p : I_impl_seen_0) (v : V_impl_seen_0) : List OB := [(some (.box 63 [.rd (.lit (.int .i64 p.2.2.2.2.2.1)), .rd (.lit (.int .i64 p.2.2.2.2.2.2.1)), .rd (.lit (.int .i64 p.2.2.2.2.2.2.2.1)), .aref 1 p.2.2.2.2.2.2.2.2.1]), false), (some (.arr 3 true p.2.2.2.2.2.2.2.2.2), false)]
def g_impl_seen_0 (l : TL_impl_seen_0) : Sg := fun a o K => match d_impl_seen_0 a o with
  | some (p, v) => l (fun z35 z36 z37 z38 z39t z39 => K .ret [.bref 0 0, .rd (.lit (.bool z35))] [(some (.box 63 [.rd (.lit (.int .i64 z36)), .rd (.lit (.int .i64 z37)), .rd (.lit (.int .i64 z38)), .rd (.sl z39t z39)]), false)]) (fun z40 z41 z42 z43t z44 => K (.exit 0) [.bref 0 0] [(some (.box 63 [.rd (.lit (.int .i64 z40)), .rd (.lit (.int .i64 z41)), .rd (.lit (.int .i64 z42)), .aref 1 z43t]), false), (some (.arr 3 true z44), false)]) p.1 p.2.1 p.2.2.1 p.2.2.2.1 p.2.2.2.2.1 p.2.2.2.2.2.1 p.2.2.2.2.2.2.1 p.2.2.2.2.2.2.2.1 p.2.2.2.2.2.2.2.2.1 p.2.2.2.2.2.2.2.2.2 v
  | none => none
def x_impl_seen_0  : ST := .o
def t_impl_seen_0 (s : Sg) : ST := .n (some h_impl_seen_0) (some s) (x_impl_seen_0 ) .o
theorem st_impl_seen_0 (cs)   (K : Ex → List AV → List OB → Option FR) (rc : List AV → List OB → Option FR) (p : I_impl_seen_0) (v : V_impl_seen_0) :
    denS (envP PP eqT cs) (tabC (tab_impl_seen)) fuel (cAt (bodyOf (fnO 29)) [1, 0, 1, 0, 0]) (x_impl_seen_0 ) (mkSt h_impl_seen_0.live (ea_impl_seen_0 p v) (eo_impl_seen_0 p v)) (fun e st' => match e with
        | .normal => canon (envP PP eqT cs) h_impl_seen_0.live st' rc
        | .exit i => outK (envP PP eqT cs) h_impl_seen_0.outs (.exit i) st' fun a o _ => K (.exit i) a o
        | .ret => outK (envP PP eqT cs) h_impl_seen_0.outs .ret st' fun a o _ => K .ret a o)
      = B_impl_seen_0   (fun z45 z46 z47 z48 z49t z49 => K .ret [.bref 0 0, .rd (.lit (.bool z45))] [(some (.box 63 [.rd (.lit (.int .i64 z46)), .rd (.lit (.int .i64 z47)), .rd (.lit (.int .i64 z48)), .rd (.sl z49t z49)]), false)]) (fun z50 z51 z52 z53t z54 => K (.exit 0) [.bref 0 0] [(some (.box 63 [.rd (.lit (.int .i64 z50)), .rd (.lit (.int .i64 z51)), .rd (.lit (.int .i64 z52)), .aref 1 z53t]), false), (some (.arr 3 true z54), false)]) p.1 p.2.1 p.2.2.1 p.2.2.2.1 p.2.2.2.2.1 p.2.2.2.2.2.1 p.2.2.2.2.2.2.1 p.2.2.2.2.2.2.2.1 p.2.2.2.2.2.2.2.2.1 p.2.2.2.2.2.2.2.2.2 (fun y0 => rc (ea_impl_seen_0 p y0) (eo_impl_seen_0 p y0)) v := by kernel_rfl
theorem v_impl_seen_0 (cs) (hC : CsOK (envP PP eqT cs) (tabC (tab_impl_seen))) : Valid (envP PP eqT cs) fuel (x_impl_seen_0 ) (cAt (bodyOf (fnO 29)) [1, 0, 1, 0, 0]) := trivial
theorem sg_impl_seen_0 (cs) (hC : CsOK (envP PP eqT cs) (tabC (tab_impl_seen))) : SgOK (envP PP eqT cs) (t_impl_seen_0  (g_impl_seen_0 G_impl_seen_0)) (fun st K => denLoop (envP PP eqT cs) (hLive (some h_impl_seen_0)) (den (envP PP eqT cs) fuel (cAt (bodyOf (fnO 29)) [1, 0, 1, 0, 0]) (x_impl_seen_0 )) fuel st K) :=
  loop_sg hC d_impl_seen_0 ea_impl_seen_0 eo_impl_seen_0 (fun a o p v h => by unfold d_impl_seen_0 at h; replace h := lCons_some h; obtain ⟨a1_, t2_, rfl, h⟩ := h; replace h := aRd_some h; obtain ⟨d3_, rfl, h⟩ := h; replace h := rInt_some h; obtain ⟨v1, rfl, h⟩ := h; replace h := lCons_some h; obtain ⟨a4_, t5_, rfl, h⟩ := h; replace h := aRd_some h; obtain ⟨d6_, rfl, h⟩ := h; replace h := rInt_some h; obtain ⟨v2, rfl, h⟩ := h; replace h := lCons_some h; obtain ⟨a7_, t8_, rfl, h⟩ := h; replace h := aBref_some h; obtain ⟨rfl, h⟩ := h; replace h := lCons_some h; obtain ⟨a9_, t10_, rfl, h⟩ := h; replace h := aRd_some h; obtain ⟨d11_, rfl, h⟩ := h; replace h := rSl_some h; obtain ⟨v3t, v3, rfl, h⟩ := h; replace h := lCons_some h; obtain ⟨a12_, t13_, rfl, h⟩ := h; replace h := aRd_some h; obtain ⟨d14_, rfl, h⟩ := h; replace h := rInt_some h; obtain ⟨v4, rfl, h⟩ := h; replace h := lCons_some h; obtain ⟨a15_, t16_, rfl, h⟩ := h; replace h := aRd_some h; obtain ⟨d17_, rfl, h⟩ := h; replace h := rInt_some h; obtain ⟨v5, rfl, h⟩ := h; replace h := lNil_some h; obtain ⟨rfl, h⟩ := h; replace h := lCons_some h; obtain ⟨a18_, t19_, rfl, h⟩ := h; replace h := oBox_some h; obtain ⟨c20_, rfl, h⟩ := h; replace h := lCons_some h; obtain ⟨a21_, t22_, rfl, h⟩ := h; replace h := aRd_some h; obtain ⟨d23_, rfl, h⟩ := h; replace h := rInt_some h; obtain ⟨v6, rfl, h⟩ := h; replace h := lCons_some h; obtain ⟨a24_, t25_, rfl, h⟩ := h; replace h := aRd_some h; obtain ⟨d26_, rfl, h⟩ := h; replace h := rInt_some h; obtain ⟨v7, rfl, h⟩ := h; replace h := lCons_some h; obtain ⟨a27_, t28_, rfl, h⟩ := h; replace h := aRd_some h; obtain ⟨d29_, rfl, h⟩ := h; replace h := rInt_some h; obtain ⟨v8, rfl, h⟩ := h; replace h := lCons_some h; obtain ⟨a30_, t31_, rfl, h⟩ := h; replace h := aRef_some h; obtain ⟨v9t, rfl, h⟩ := h; replace h := lNil_some h; obtain ⟨rfl, h⟩ := h; replace h := lCons_some h; obtain ⟨a32_, t33_, rfl, h⟩ := h; replace h := oArr_some h; obtain ⟨v10, rfl, h⟩ := h; replace h := lNil_some h; obtain ⟨rfl, h⟩ := h; cases h; exact ⟨rfl, rfl⟩)
    (fun K p rc v => B_impl_seen_0   (fun z45 z46 z47 z48 z49t z49 => K .ret [.bref 0 0, .rd (.lit (.bool z45))] [(some (.box 63 [.rd (.lit (.int .i64 z46)), .rd (.lit (.int .i64 z47)), .rd (.lit (.int .i64 z48)), .rd (.sl z49t z49)]), false)]) (fun z50 z51 z52 z53t z54 => K (.exit 0) [.bref 0 0] [(some (.box 63 [.rd (.lit (.int .i64 z50)), .rd (.lit (.int .i64 z51)), .rd (.lit (.int .i64 z52)), .aref 1 z53t]), false), (some (.arr 3 true z54), false)]) p.1 p.2.1 p.2.2.1 p.2.2.2.1 p.2.2.2.2.1 p.2.2.2.2.2.1 p.2.2.2.2.2.2.1 p.2.2.2.2.2.2.2.1 p.2.2.2.2.2.2.2.2.1 p.2.2.2.2.2.2.2.2.2 (fun y0 => rc y0) v)
    (fun K p n v => L_impl_seen_0   (fun z45 z46 z47 z48 z49t z49 => K .ret [.bref 0 0, .rd (.lit (.bool z45))] [(some (.box 63 [.rd (.lit (.int .i64 z46)), .rd (.lit (.int .i64 z47)), .rd (.lit (.int .i64 z48)), .rd (.sl z49t z49)]), false)]) (fun z50 z51 z52 z53t z54 => K (.exit 0) [.bref 0 0] [(some (.box 63 [.rd (.lit (.int .i64 z50)), .rd (.lit (.int .i64 z51)), .rd (.lit (.int .i64 z52)), .aref 1 z53t]), false), (some (.arr 3 true z54), false)]) p.1 p.2.1 p.2.2.1 p.2.2.2.1 p.2.2.2.2.1 p.2.2.2.2.2.1 p.2.2.2.2.2.2.1 p.2.2.2.2.2.2.2.1 p.2.2.2.2.2.2.2.2.1 p.2.2.2.2.2.2.2.2.2 n v) (fun K p v => rfl) (fun K p n v => rfl) (by kernel_rfl) (v_impl_seen_0 cs hC)
    (fun K rc p v => st_impl_seen_0 cs   K rc p v)
def t_impl_seen (l0 : TL_impl_seen_0) : ST := (.n none none .o (.n none none (.n none none .o (.n none none (t_impl_seen_0 (g_impl_seen_0 l0)) .o)) .o))
def fin_impl_seen : Option Live := some ⟨[(6, 0), (7, 4)], [], [(6, 4)]⟩
theorem fs_impl_seen (cs)  (l0 : TL_impl_seen_0) (p1t : Bool) (p1 : List (List RD)) (p2 : Int) (p3 : Int) (K : List (List DV) → DV → Option FR) :
    denFS (envP PP eqT cs) (tabC (tab_impl_seen)) (t_impl_seen l0) fin_impl_seen (fnO 29) fuel [.ro (.sl p1t p1), .ro (.lit (.int .i64 p2)), .ro (.lit (.int .i64 p3))] K = F_impl_seen  l0 p1t p1 p2 p3 (fun r1 r2 r3 r4t r4 r5 => K [] (.tup [.agg [.ro (.lit (.int .i64 r1)), .ro (.lit (.int .i64 r2)), .ro (.lit (.int .i64 r3)), .ro (.sl r4t r4)], .ro (.lit (.bool r5))])) := by kernel_rfl
theorem va_impl_seen (cs) (hC : CsOK (envP PP eqT cs) (tabC (tab_impl_seen))) : Valid (envP PP eqT cs) fuel (t_impl_seen G_impl_seen_0) (bodyOf (fnO 29)) := ⟨⟨trivial, ⟨⟨⟨⟨trivial, ⟨⟨v_impl_seen_0 cs hC, sg_impl_seen_0 cs hC⟩, sg_none⟩⟩, sg_none⟩, trivial⟩, sg_none⟩⟩, sg_none⟩
theorem good_impl_seen : Good PP 29 (C_impl_seen S_impl_seen) :=
  good_fn (tab := tab_impl_seen) hmix heq Tab.nil (show PP.funcs[29]? = some (fnO 29) by kernel_rfl) (show takes (fnO 29) = true by kernel_rfl) va_impl_seen (by
    intro cs args K r h
    unfold C_impl_seen at h
    replace h := lCons_some h; obtain ⟨a1_, t2_, rfl, h⟩ := h; replace h := dRo_some h; obtain ⟨d3_, rfl, h⟩ := h; replace h := rSl_some h; obtain ⟨p1t, p1, rfl, h⟩ := h; replace h := lCons_some h; obtain ⟨a4_, t5_, rfl, h⟩ := h; replace h := dRo_some h; obtain ⟨d6_, rfl, h⟩ := h; replace h := rInt_some h; obtain ⟨p2, rfl, h⟩ := h; replace h := lCons_some h; obtain ⟨a7_, t8_, rfl, h⟩ := h; replace h := dRo_some h; obtain ⟨d9_, rfl, h⟩ := h; replace h := rInt_some h; obtain ⟨p3, rfl, h⟩ := h; replace h := lNil_some h; obtain ⟨rfl, h⟩ := h
    exact (fs_impl_seen cs  G_impl_seen_0 _ _ _ _ K).trans h)
noncomputable def tab_slices_Clip_Limpl_Value_impl_Value  : List (Nat × SmC) := []
def t_slices_Clip_Limpl_Value_impl_Value  : ST := .o
def fin_slices_Clip_Limpl_Value_impl_Value : Option Live := none
theorem fs_slices_Clip_Limpl_Value_impl_Value (cs)   (p1t : Bool) (p1 : List (List RD)) (K : List (List DV) → DV → Option FR) :
    denFS (envP PP eqT cs) (tabC (tab_slices_Clip_Limpl_Value_impl_Value)) (t_slices_Clip_Limpl_Value_impl_Value ) fin_slices_Clip_Limpl_Value_impl_Value (fnO 81) fuel [.ro (.sl p1t p1)] K = F_slices_Clip_Limpl_Value_impl_Value   p1t p1 (fun r1t r1 => K [] (.ro (.sl r1t r1))) := by kernel_rfl
theorem va_slices_Clip_Limpl_Value_impl_Value (cs) (hC : CsOK (envP PP eqT cs) (tabC (tab_slices_Clip_Limpl_Value_impl_Value))) : Valid (envP PP eqT cs) fuel (t_slices_Clip_Limpl_Value_impl_Value ) (bodyOf (fnO 81)) := trivial
theorem good_slices_Clip_Limpl_Value_impl_Value : Good PP 81 (C_slices_Clip_Limpl_Value_impl_Value S_slices_Clip_Limpl_Value_impl_Value) :=
  good_fn (tab := tab_slices_Clip_Limpl_Value_impl_Value) hmix heq Tab.nil (show PP.funcs[81]? = some (fnO 81) by kernel_rfl) (show takes (fnO 81) = true by kernel_rfl) va_slices_Clip_Limpl_Value_impl_Value (by
    intro cs args K r h
    unfold C_slices_Clip_Limpl_Value_impl_Value at h
    replace h := lCons_some h; obtain ⟨a1_, t2_, rfl, h⟩ := h; replace h := dRo_some h; obtain ⟨d3_, rfl, h⟩ := h; replace h := rSl_some h; obtain ⟨p1t, p1, rfl, h⟩ := h; replace h := lNil_some h; obtain ⟨rfl, h⟩ := h
    exact (fs_slices_Clip_Limpl_Value_impl_Value cs   _ _ K).trans h)
noncomputable def tab_impl_clone_impl_Value (s_slices_Clip_Limpl_Value_impl_Value : T_slices_Clip_Limpl_Value_impl_Value) : List (Nat × SmC) := [(81, C_slices_Clip_Limpl_Value_impl_Value s_slices_Clip_Limpl_Value_impl_Value)]
def t_impl_clone_impl_Value  : ST := .o
def fin_impl_clone_impl_Value : Option Live := some ⟨[(2, 49)], [], [(2, 0)]⟩
theorem fs_impl_clone_impl_Value (cs) (s_slices_Clip_Limpl_Value_impl_Value : T_slices_Clip_Limpl_Value_impl_Value)  (p1t : Bool) (p1 : List (List RD)) (K : List (List DV) → DV → Option FR) :
    denFS (envP PP eqT cs) (tabC (tab_impl_clone_impl_Value s_slices_Clip_Limpl_Value_impl_Value)) (t_impl_clone_impl_Value ) fin_impl_clone_impl_Value (fnO 58) fuel [.ro (.sl p1t p1)] K = F_impl_clone_impl_Value s_slices_Clip_Limpl_Value_impl_Value  p1t p1 (fun r1t r1 => K [] (.ro (.sl r1t r1))) := by kernel_rfl
theorem va_impl_clone_impl_Value (cs) (hC : CsOK (envP PP eqT cs) (tabC (tab_impl_clone_impl_Value S_slices_Clip_Limpl_Value_impl_Value))) : Valid (envP PP eqT cs) fuel (t_impl_clone_impl_Value ) (bodyOf (fnO 58)) := trivial
theorem good_impl_clone_impl_Value : Good PP 58 (C_impl_clone_impl_Value S_impl_clone_impl_Value) :=
  good_fn (tab := tab_impl_clone_impl_Value S_slices_Clip_Limpl_Value_impl_Value) hmix heq (Tab.cons good_slices_Clip_Limpl_Value_impl_Value Tab.nil) (show PP.funcs[58]? = some (fnO 58) by kernel_rfl) (show takes (fnO 58) = true by kernel_rfl) va_impl_clone_impl_Value (by
    intro cs args K r h
    unfold C_impl_clone_impl_Value at h
    replace h := lCons_some h; obtain ⟨a1_, t2_, rfl, h⟩ := h; replace h := dRo_some h; obtain ⟨d3_, rfl, h⟩ := h; replace h := rSl_some h; obtain ⟨p1t, p1, rfl, h⟩ := h; replace h := lNil_some h; obtain ⟨rfl, h⟩ := h
    exact (fs_impl_clone_impl_Value cs S_slices_Clip_Limpl_Value_impl_Value  _ _ K).trans h)
noncomputable def tab_slices_Clip_LLimpl_Value_Limpl_Value  : List (Nat × SmC) := []
def t_slices_Clip_LLimpl_Value_Limpl_Value  : ST := .o
def fin_slices_Clip_LLimpl_Value_Limpl_Value : Option Live := none
theorem fs_slices_Clip_LLimpl_Value_Limpl_Value (cs)   (p1t : Bool) (p1 : List (List RD)) (K : List (List DV) → DV → Option FR) :
    denFS (envP PP eqT cs) (tabC (tab_slices_Clip_LLimpl_Value_Limpl_Value)) (t_slices_Clip_LLimpl_Value_Limpl_Value ) fin_slices_Clip_LLimpl_Value_Limpl_Value (fnO 59) fuel [.ro (.sl p1t p1)] K = F_slices_Clip_LLimpl_Value_Limpl_Value   p1t p1 (fun r1t r1 => K [] (.ro (.sl r1t r1))) := by kernel_rfl
theorem va_slices_Clip_LLimpl_Value_Limpl_Value (cs) (hC : CsOK (envP PP eqT cs) (tabC (tab_slices_Clip_LLimpl_Value_Limpl_Value))) : Valid (envP PP eqT cs) fuel (t_slices_Clip_LLimpl_Value_Limpl_Value ) (bodyOf (fnO 59)) := trivial
theorem good_slices_Clip_LLimpl_Value_Limpl_Value : Good PP 59 (C_slices_Clip_LLimpl_Value_Limpl_Value S_slices_Clip_LLimpl_Value_Limpl_Value) :=
  good_fn (tab := tab_slices_Clip_LLimpl_Value_Limpl_Value) hmix heq Tab.nil (show PP.funcs[59]? = some (fnO 59) by kernel_rfl) (show takes (fnO 59) = true by kernel_rfl) va_slices_Clip_LLimpl_Value_Limpl_Value (by
    intro cs args K r h
    unfold C_slices_Clip_LLimpl_Value_Limpl_Value at h
    replace h := lCons_some h; obtain ⟨a1_, t2_, rfl, h⟩ := h; replace h := dRo_some h; obtain ⟨d3_, rfl, h⟩ := h; replace h := rSl_some h; obtain ⟨p1t, p1, rfl, h⟩ := h; replace h := lNil_some h; obtain ⟨rfl, h⟩ := h
    exact (fs_slices_Clip_LLimpl_Value_Limpl_Value cs   _ _ K).trans h)
noncomputable def tab_impl_rowsCopy (s_impl_clone_impl_Value : T_impl_clone_impl_Value) (s_slices_Clip_LLimpl_Value_Limpl_Value : T_slices_Clip_LLimpl_Value_Limpl_Value) : List (Nat × SmC) := [(58, C_impl_clone_impl_Value s_impl_clone_impl_Value), (59, C_slices_Clip_LLimpl_Value_Limpl_Value s_slices_Clip_LLimpl_Value_Limpl_Value)]
abbrev I_impl_rowsCopy_0 := Bool × List (List RD) × Int
abbrev V_impl_rowsCopy_0 := Bool × Int × List (List RD)
def h_impl_rowsCopy_0 : Hint := ⟨⟨[(3, 28), (6, 28), (7, 3), (8, 3)], [(3, 0)], []⟩, [(2, ⟨[(3, 28)], [], []⟩)]⟩
def d_impl_rowsCopy_0 (a : List AV) (o : List OB) : Option (I_impl_rowsCopy_0 × V_impl_rowsCopy_0) :=
  lCons a fun a1_ t2_ => aRef 0 a1_ fun v1t => lCons t2_ fun a3_ t4_ => aRd a3_ fun d5_ => rSl d5_ fun v2t v2 => lCons t4_ fun a6_ t7_ => aRd a6_ fun d8_ => rInt .i64 d8_ fun v3 => lCons t7_ fun a9_ t10_ => aRd a9_ fun d11_ => rInt .i64 d11_ fun v4 => lNil t10_ <| lCons o fun a12_ t13_ => oArr 1 false false a12_ fun v5 => lNil t13_ <|
  some ((v2t, v2, v3), (v1t, v4, v5))
def ea_impl_rowsCopy_0 (p : I_impl_rowsCopy_0) (v : V_impl_rowsCopy_0) : List AV := [.aref 0 v.1, .rd (.sl p.1 p.2.1), .rd (.lit (.int .i64 p.2.2)), .rd (.lit (.int .i64 v.2.1))]
def eo_impl_rowsCopy_0 (p : I_impl_rowsCopy_0) (v : V_impl_rowsCopy_0) : List OB := [(some (.arr 1 false v.2.2), false)]
def g_impl_rowsCopy_0 (l : TL_impl_rowsCopy_0) : Sg := fun a o K => match d_impl_rowsCopy_0 a o with
  | some (p, v) => l (fun z13t z14 => K (.exit 0) [.aref 0 z13t] [(some (.arr 1 false z14), false)]) p.1 p.2.1 p.2.2 v.1 v.2.1 v.2.2
  | none => none
def x_impl_rowsCopy_0  : ST := .o
def t_impl_rowsCopy_0 (s : Sg) : ST := .n (some h_impl_rowsCopy_0) (some s) (x_impl_rowsCopy_0 ) .o
theorem st_impl_rowsCopy_0 (cs) (s_impl_clone_impl_Value : T_impl_clone_impl_Value) (s_slices_Clip_LLimpl_Value_Limpl_Value : T_slices_Clip_LLimpl_Value_Limpl_Value)  (K : Ex → List AV → List OB → Option FR) (rc : List AV → List OB → Option FR) (p : I_impl_rowsCopy_0) (v : V_impl_rowsCopy_0) :
    denS (envP PP eqT cs) (tabC (tab_impl_rowsCopy s_impl_clone_impl_Value s_slices_Clip_LLimpl_Value_Limpl_Value)) fuel (cAt (bodyOf (fnO 30)) [1, 1, 0, 1, 0, 0]) (x_impl_rowsCopy_0 ) (mkSt h_impl_rowsCopy_0.live (ea_impl_rowsCopy_0 p v) (eo_impl_rowsCopy_0 p v)) (fun e st' => match e with
        | .normal => canon (envP PP eqT cs) h_impl_rowsCopy_0.live st' rc
        | .exit i => outK (envP PP eqT cs) h_impl_rowsCopy_0.outs (.exit i) st' fun a o _ => K (.exit i) a o
        | .ret => outK (envP PP eqT cs) h_impl_rowsCopy_0.outs .ret st' fun a o _ => K .ret a o)
      = B_impl_rowsCopy_0 s_impl_clone_impl_Value  (fun z15t z16 => K (.exit 0) [.aref 0 z15t] [(some (.arr 1 false z16), false)]) p.1 p.2.1 p.2.2 (fun y0 y1 y2 => rc (ea_impl_rowsCopy_0 p (y0, y1, y2)) (eo_impl_rowsCopy_0 p (y0, y1, y2))) v.1 v.2.1 v.2.2 := by kernel_rfl
theorem v_impl_rowsCopy_0 (cs) (hC : CsOK (envP PP eqT cs) (tabC (tab_impl_rowsCopy S_impl_clone_impl_Value S_slices_Clip_LLimpl_Value_Limpl_Value))) : Valid (envP PP eqT cs) fuel (x_impl_rowsCopy_0 ) (cAt (bodyOf (fnO 30)) [1, 1, 0, 1, 0, 0]) := trivial
theorem sg_impl_rowsCopy_0 (cs) (hC : CsOK (envP PP eqT cs) (tabC (tab_impl_rowsCopy S_impl_clone_impl_Value S_slices_Clip_LLimpl_Value_Limpl_Value))) : SgOK (envP PP eqT cs) (t_impl_rowsCopy_0  (g_impl_rowsCopy_0 G_impl_rowsCopy_0)) (fun st K => denLoop (envP PP eqT cs) (hLive (some h_impl_rowsCopy_0)) (den (envP PP eqT cs) fuel (cAt (bodyOf (fnO 30)) [1, 1, 0, 1, 0, 0]) (x_impl_rowsCopy_0 )) fuel st K) :=
  loop_sg hC d_impl_rowsCopy_0 ea_impl_rowsCopy_0 eo_impl_rowsCopy_0 (fun a o p v h => by unfold d_impl_rowsCopy_0 at h; replace h := lCons_some h; obtain ⟨a1_, t2_, rfl, h⟩ := h; replace h := aRef_some h; obtain ⟨v1t, rfl, h⟩ := h; replace h := lCons_some h; obtain ⟨a3_, t4_, rfl, h⟩ := h; replace h := aRd_some h; obtain ⟨d5_, rfl, h⟩ := h; replace h := rSl_some h; obtain ⟨v2t, v2, rfl, h⟩ := h; replace h := lCons_some h; obtain ⟨a6_, t7_, rfl, h⟩ := h; replace h := aRd_some h; obtain ⟨d8_, rfl, h⟩ := h; replace h := rInt_some h; obtain ⟨v3, rfl, h⟩ := h; replace h := lCons_some h; obtain ⟨a9_, t10_, rfl, h⟩ := h; replace h := aRd_some h; obtain ⟨d11_, rfl, h⟩ := h; replace h := rInt_some h; obtain ⟨v4, rfl, h⟩ := h; replace h := lNil_some h; obtain ⟨rfl, h⟩ := h; replace h := lCons_some h; obtain ⟨a12_, t13_, rfl, h⟩ := h; replace h := oArr_some h; obtain ⟨v5, rfl, h⟩ := h; replace h := lNil_some h; obtain ⟨rfl, h⟩ := h; cases h; exact ⟨rfl, rfl⟩)
    (fun K p rc v => B_impl_rowsCopy_0 S_impl_clone_impl_Value  (fun z15t z16 => K (.exit 0) [.aref 0 z15t] [(some (.arr 1 false z16), false)]) p.1 p.2.1 p.2.2 (fun y0 y1 y2 => rc (y0, y1, y2)) v.1 v.2.1 v.2.2)
    (fun K p n v => L_impl_rowsCopy_0 S_impl_clone_impl_Value  (fun z15t z16 => K (.exit 0) [.aref 0 z15t] [(some (.arr 1 false z16), false)]) p.1 p.2.1 p.2.2 n v.1 v.2.1 v.2.2) (fun K p v => rfl) (fun K p n v => rfl) (by kernel_rfl) (v_impl_rowsCopy_0 cs hC)
    (fun K rc p v => st_impl_rowsCopy_0 cs S_impl_clone_impl_Value S_slices_Clip_LLimpl_Value_Limpl_Value  K rc p v)
def t_impl_rowsCopy (l0 : TL_impl_rowsCopy_0) : ST := (.n none none .o (.n none none .o (.n none none (.n none none .o (.n none none (t_impl_rowsCopy_0 (g_impl_rowsCopy_0 l0)) .o)) .o)))
def fin_impl_rowsCopy : Option Live := none
theorem fs_impl_rowsCopy (cs) (s_impl_clone_impl_Value : T_impl_clone_impl_Value) (s_slices_Clip_LLimpl_Value_Limpl_Value : T_slices_Clip_LLimpl_Value_Limpl_Value) (l0 : TL_impl_rowsCopy_0) (p1t : Bool) (p1 : List (List RD)) (K : List (List DV) → DV → Option FR) :
    denFS (envP PP eqT cs) (tabC (tab_impl_rowsCopy s_impl_clone_impl_Value s_slices_Clip_LLimpl_Value_Limpl_Value)) (t_impl_rowsCopy l0) fin_impl_rowsCopy (fnO 30) fuel [.ro (.sl p1t p1)] K = F_impl_rowsCopy s_slices_Clip_LLimpl_Value_Limpl_Value l0 p1t p1 (fun r1t r1 => K [] (.ro (.sl r1t r1))) := by kernel_rfl
theorem va_impl_rowsCopy (cs) (hC : CsOK (envP PP eqT cs) (tabC (tab_impl_rowsCopy S_impl_clone_impl_Value S_slices_Clip_LLimpl_Value_Limpl_Value))) : Valid (envP PP eqT cs) fuel (t_impl_rowsCopy G_impl_rowsCopy_0) (bodyOf (fnO 30)) := ⟨⟨trivial, ⟨⟨trivial, ⟨⟨⟨⟨trivial, ⟨⟨v_impl_rowsCopy_0 cs hC, sg_impl_rowsCopy_0 cs hC⟩, sg_none⟩⟩, sg_none⟩, trivial⟩, sg_none⟩⟩, sg_none⟩⟩, sg_none⟩
theorem good_impl_rowsCopy : Good PP 30 (C_impl_rowsCopy S_impl_rowsCopy) :=
  good_fn (tab := tab_impl_rowsCopy S_impl_clone_impl_Value S_slices_Clip_LLimpl_Value_Limpl_Value) hmix heq (Tab.cons good_impl_clone_impl_Value (Tab.cons good_slices_Clip_LLimpl_Value_Limpl_Value Tab.nil)) (show PP.funcs[30]? = some (fnO 30) by kernel_rfl) (show takes (fnO 30) = true by kernel_rfl) va_impl_rowsCopy (by
    intro cs args K r h
    unfold C_impl_rowsCopy at h
    replace h := lCons_some h; obtain ⟨a1_, t2_, rfl, h⟩ := h; replace h := dRo_some h; obtain ⟨d3_, rfl, h⟩ := h; replace h := rSl_some h; obtain ⟨p1t, p1, rfl, h⟩ := h; replace h := lNil_some h; obtain ⟨rfl, h⟩ := h
    exact (fs_impl_rowsCopy cs S_impl_clone_impl_Value S_slices_Clip_LLimpl_Value_Limpl_Value G_impl_rowsCopy_0 _ _ K).trans h)
noncomputable def tab_impl_RowsAt (s_impl_seen : T_impl_seen) (s_impl_VersionsOk : T_impl_VersionsOk) (s_impl_rowsCopy : T_impl_rowsCopy) : List (Nat × SmC) := [(29, C_impl_seen s_impl_seen), (24, C_impl_VersionsOk s_impl_VersionsOk), (30, C_impl_rowsCopy s_impl_rowsCopy)]
abbrev I_impl_RowsAt_0 := Bool × List (List RD) × Int
abbrev V_impl_RowsAt_0 := Bool × Int × List (List RD)
def h_impl_RowsAt_0 : Hint := ⟨⟨[(0, 23), (1, 3), (5, 28), (12, 3)], [(5, 0)], []⟩, [(2, ⟨[(5, 28)], [], []⟩)]⟩
def d_impl_RowsAt_0 (a : List AV) (o : List OB) : Option (I_impl_RowsAt_0 × V_impl_RowsAt_0) :=
  lCons a fun a1_ t2_ => aRd a1_ fun d3_ => rSl d3_ fun v2t v2 => lCons t2_ fun a4_ t5_ => aRd a4_ fun d6_ => rInt .i64 d6_ fun v3 => lCons t5_ fun a7_ t8_ => aRef 0 a7_ fun v4t => lCons t8_ fun a9_ t10_ => aRd a9_ fun d11_ => rInt .i64 d11_ fun v5 => lNil t10_ <| lCons o fun a12_ t13_ => oArr 1 false false a12_ fun v6 => lNil t13_ <|
  some ((v2t, v2, v3), (v4t, v5, v6))
def ea_impl_RowsAt_0 (p : I_impl_RowsAt_0) (v : V_impl_RowsAt_0) : List AV := [.rd (.sl p.1 p.2.1), .rd (.lit (.int .i64 p.2.2)), .aref 0 v.1, .rd (.lit (.int .i64 v.2.1))]
def eo_impl_RowsAt_0 (p : I_impl_RowsAt_0) (v : V_impl_RowsAt_0) : List OB := [(some (.arr 1 false v.2.2), false)]
def g_impl_RowsAt_0 (l : TL_impl_RowsAt_0) : Sg := fun a o K => match d_impl_RowsAt_0 a o with
  | some (p, v) => l (fun z17t z18 => K (.exit 0) [.aref 0 z17t] [(some (.arr 1 false z18), false)]) p.1 p.2.1 p.2.2 v.1 v.2.1 v.2.2
  | none => none
def x_impl_RowsAt_0  : ST := .o
def t_impl_RowsAt_0 (s : Sg) : ST := .n (some h_impl_RowsAt_0) (some s) (x_impl_RowsAt_0 ) .o
theorem st_impl_RowsAt_0 (cs) (s_impl_seen : T_impl_seen) (s_impl_VersionsOk : T_impl_VersionsOk) (s_impl_rowsCopy : T_impl_rowsCopy)  (K : Ex → List AV → List OB → Option FR) (rc : List AV → List OB → Option FR) (p : I_impl_RowsAt_0) (v : V_impl_RowsAt_0) :
    denS (envP PP eqT cs) (tabC (tab_impl_RowsAt s_impl_seen s_impl_VersionsOk s_impl_rowsCopy)) fuel (cAt (bodyOf (fnO 11)) [1, 1, 1, 0, 1, 0, 0]) (x_impl_RowsAt_0 ) (mkSt h_impl_RowsAt_0.live (ea_impl_RowsAt_0 p v) (eo_impl_RowsAt_0 p v)) (fun e st' => match e with
        | .normal => canon (envP PP eqT cs) h_impl_RowsAt_0.live st' rc
        | .exit i => outK (envP PP eqT cs) h_impl_RowsAt_0.outs (.exit i) st' fun a o _ => K (.exit i) a o
        | .ret => outK (envP PP eqT cs) h_impl_RowsAt_0.outs .ret st' fun a o _ => K .ret a o)
      = B_impl_RowsAt_0 s_impl_seen  (fun z19t z20 => K (.exit 0) [.aref 0 z19t] [(some (.arr 1 false z20), false)]) p.1 p.2.1 p.2.2 (fun y0 y1 y2 => rc (ea_impl_RowsAt_0 p (y0, y1, y2)) (eo_impl_RowsAt_0 p (y0, y1, y2))) v.1 v.2.1 v.2.2 := by kernel_rfl
theorem v_impl_RowsAt_0 (cs) (hC : CsOK (envP PP eqT cs) (tabC (tab_impl_RowsAt S_impl_seen S_impl_VersionsOk S_impl_rowsCopy))) : Valid (envP PP eqT cs) fuel (x_impl_RowsAt_0 ) (cAt (bodyOf (fnO 11)) [1, 1, 1, 0, 1, 0, 0]) := trivial
theorem sg_impl_RowsAt_0 (cs) (hC : CsOK (envP PP eqT cs) (tabC (tab_impl_RowsAt S_impl_seen S_impl_VersionsOk S_impl_rowsCopy))) : SgOK (envP PP eqT cs) (t_impl_RowsAt_0  (g_impl_RowsAt_0 G_impl_RowsAt_0)) (fun st K => denLoop (envP PP eqT cs) (hLive (some h_impl_RowsAt_0)) (den (envP PP eqT cs) fuel (cAt (bodyOf (fnO 11)) [1, 1, 1, 0, 1, 0, 0]) (x_impl_RowsAt_0 )) fuel st K) :=
  loop_sg hC d_impl_RowsAt_0 ea_impl_RowsAt_0 eo_impl_RowsAt_0 (fun a o p v h => by unfold d_impl_RowsAt_0 at h; replace h := lCons_some h; obtain ⟨a1_, t2_, rfl, h⟩ := h; replace h := aRd_some h; obtain ⟨d3_, rfl, h⟩ := h; replace h := rSl_some h; obtain ⟨v2t, v2, rfl, h⟩ := h; replace h := lCons_some h; obtain ⟨a4_, t5_, rfl, h⟩ := h; replace h := aRd_some h; obtain ⟨d6_, rfl, h⟩ := h; replace h := rInt_some h; obtain ⟨v3, rfl, h⟩ := h; replace h := lCons_some h; obtain ⟨a7_, t8_, rfl, h⟩ := h; replace h := aRef_some h; obtain ⟨v4t, rfl, h⟩ := h; replace h := lCons_some h; obtain ⟨a9_, t10_, rfl, h⟩ := h; replace h := aRd_some h; obtain ⟨d11_, rfl, h⟩ := h; replace h := rInt_some h; obtain ⟨v5, rfl, h⟩ := h; replace h := lNil_some h; obtain ⟨rfl, h⟩ := h; replace h := lCons_some h; obtain ⟨a12_, t13_, rfl, h⟩ := h; replace h := oArr_some h; obtain ⟨v6, rfl, h⟩ := h; replace h := lNil_some h; obtain ⟨rfl, h⟩ := h; cases h; exact ⟨rfl, rfl⟩)
    (fun K p rc v => B_impl_RowsAt_0 S_impl_seen  (fun z19t z20 => K (.exit 0) [.aref 0 z19t] [(some (.arr 1 false z20), false)]) p.1 p.2.1 p.2.2 (fun y0 y1 y2 => rc (y0, y1, y2)) v.1 v.2.1 v.2.2)
    (fun K p n v => L_impl_RowsAt_0 S_impl_seen  (fun z19t z20 => K (.exit 0) [.aref 0 z19t] [(some (.arr 1 false z20), false)]) p.1 p.2.1 p.2.2 n v.1 v.2.1 v.2.2) (fun K p v => rfl) (fun K p n v => rfl) (by kernel_rfl) (v_impl_RowsAt_0 cs hC)
    (fun K rc p v => st_impl_RowsAt_0 cs S_impl_seen S_impl_VersionsOk S_impl_rowsCopy  K rc p v)
def t_impl_RowsAt (l0 : TL_impl_RowsAt_0) : ST := (.n none none .o (.n none none .o (.n none none .o (.n none none (.n none none .o (.n none none (t_impl_RowsAt_0 (g_impl_RowsAt_0 l0)) .o)) .o))))
def fin_impl_RowsAt : Option Live := some ⟨[(4, 28)], [], [(4, 0)]⟩
theorem fs_impl_RowsAt (cs) (s_impl_seen : T_impl_seen) (s_impl_VersionsOk : T_impl_VersionsOk) (s_impl_rowsCopy : T_impl_rowsCopy) (l0 : TL_impl_RowsAt_0) (p1t : Bool) (p1 : List (List RD)) (p2 : Int) (K : List (List DV) → DV → Option FR) :
    denFS (envP PP eqT cs) (tabC (tab_impl_RowsAt s_impl_seen s_impl_VersionsOk s_impl_rowsCopy)) (t_impl_RowsAt l0) fin_impl_RowsAt (fnO 11) fuel [.ro (.sl p1t p1), .ro (.lit (.int .i64 p2))] K = F_impl_RowsAt s_impl_VersionsOk s_impl_rowsCopy l0 p1t p1 p2 (fun r1t r1 => K [] (.ro (.sl r1t r1))) := by kernel_rfl
theorem va_impl_RowsAt (cs) (hC : CsOK (envP PP eqT cs) (tabC (tab_impl_RowsAt S_impl_seen S_impl_VersionsOk S_impl_rowsCopy))) : Valid (envP PP eqT cs) fuel (t_impl_RowsAt G_impl_RowsAt_0) (bodyOf (fnO 11)) := ⟨⟨trivial, ⟨⟨trivial, ⟨⟨trivial, ⟨⟨⟨⟨trivial, ⟨⟨v_impl_RowsAt_0 cs hC, sg_impl_RowsAt_0 cs hC⟩, sg_none⟩⟩, sg_none⟩, trivial⟩, sg_none⟩⟩, sg_none⟩⟩, sg_none⟩⟩, sg_none⟩
theorem good_impl_RowsAt : Good PP 11 (C_impl_RowsAt S_impl_RowsAt) :=
  good_fn (tab := tab_impl_RowsAt S_impl_seen S_impl_VersionsOk S_impl_rowsCopy) hmix heq (Tab.cons good_impl_seen (Tab.cons good_impl_VersionsOk (Tab.cons good_impl_rowsCopy Tab.nil))) (show PP.funcs[11]? = some (fnO 11) by kernel_rfl) (show takes (fnO 11) = true by kernel_rfl) va_impl_RowsAt (by
    intro cs args K r h
    unfold C_impl_RowsAt at h
    replace h := lCons_some h; obtain ⟨a1_, t2_, rfl, h⟩ := h; replace h := dRo_some h; obtain ⟨d3_, rfl, h⟩ := h; replace h := rSl_some h; obtain ⟨p1t, p1, rfl, h⟩ := h; replace h := lCons_some h; obtain ⟨a4_, t5_, rfl, h⟩ := h; replace h := dRo_some h; obtain ⟨d6_, rfl, h⟩ := h; replace h := rInt_some h; obtain ⟨p2, rfl, h⟩ := h; replace h := lNil_some h; obtain ⟨rfl, h⟩ := h
    exact (fs_impl_RowsAt cs S_impl_seen S_impl_VersionsOk S_impl_rowsCopy G_impl_RowsAt_0 _ _ _ K).trans h)
noncomputable def tab_impl_RowsNow (s_impl_HouseOk : T_impl_HouseOk) (s_impl_RowsAt : T_impl_RowsAt) : List (Nat × SmC) := [(9, C_impl_HouseOk s_impl_HouseOk), (11, C_impl_RowsAt s_impl_RowsAt)]
def t_impl_RowsNow  : ST := .o
def fin_impl_RowsNow : Option Live := some ⟨[(2, 28)], [], [(2, 0)]⟩
theorem fs_impl_RowsNow (cs) (s_impl_HouseOk : T_impl_HouseOk) (s_impl_RowsAt : T_impl_RowsAt)  (p1t : Bool) (p1 : List (List RD)) (p2 : Int) (p3t : Bool) (p3 : List (List RD)) (K : List (List DV) → DV → Option FR) :
    denFS (envP PP eqT cs) (tabC (tab_impl_RowsNow s_impl_HouseOk s_impl_RowsAt)) (t_impl_RowsNow ) fin_impl_RowsNow (fnO 6) fuel [.agg [.ro (.sl p1t p1), .ro (.lit (.int .i64 p2)), .ro (.sl p3t p3)]] K = F_impl_RowsNow s_impl_HouseOk s_impl_RowsAt  p1t p1 p2 p3t p3 (fun r1t r1 => K [] (.ro (.sl r1t r1))) := by kernel_rfl
theorem va_impl_RowsNow (cs) (hC : CsOK (envP PP eqT cs) (tabC (tab_impl_RowsNow S_impl_HouseOk S_impl_RowsAt))) : Valid (envP PP eqT cs) fuel (t_impl_RowsNow ) (bodyOf (fnO 6)) := trivial
theorem good_impl_RowsNow : Good PP 6 (C_impl_RowsNow S_impl_RowsNow) :=
  good_fn (tab := tab_impl_RowsNow S_impl_HouseOk S_impl_RowsAt) hmix heq (Tab.cons good_impl_HouseOk (Tab.cons good_impl_RowsAt Tab.nil)) (show PP.funcs[6]? = some (fnO 6) by kernel_rfl) (show takes (fnO 6) = true by kernel_rfl) va_impl_RowsNow (by
    intro cs args K r h
    unfold C_impl_RowsNow at h
    replace h := lCons_some h; obtain ⟨a1_, t2_, rfl, h⟩ := h; replace h := dAgg_some h; obtain ⟨c3_, rfl, h⟩ := h; replace h := lCons_some h; obtain ⟨a4_, t5_, rfl, h⟩ := h; replace h := dRo_some h; obtain ⟨d6_, rfl, h⟩ := h; replace h := rSl_some h; obtain ⟨p1t, p1, rfl, h⟩ := h; replace h := lCons_some h; obtain ⟨a7_, t8_, rfl, h⟩ := h; replace h := dRo_some h; obtain ⟨d9_, rfl, h⟩ := h; replace h := rInt_some h; obtain ⟨p2, rfl, h⟩ := h; replace h := lCons_some h; obtain ⟨a10_, t11_, rfl, h⟩ := h; replace h := dRo_some h; obtain ⟨d12_, rfl, h⟩ := h; replace h := rSl_some h; obtain ⟨p3t, p3, rfl, h⟩ := h; replace h := lNil_some h; obtain ⟨rfl, h⟩ := h; replace h := lNil_some h; obtain ⟨rfl, h⟩ := h
    exact (fs_impl_RowsNow cs S_impl_HouseOk S_impl_RowsAt  _ _ _ _ _ K).trans h)
noncomputable def tab_spec_l13Seen  : List (Nat × SmC) := []
def t_spec_l13Seen  : ST := .o
def fin_spec_l13Seen : Option Live := none
theorem fs_spec_l13Seen (cs)   (p1 : Int) (p2 : Int) (p3 : Int) (p4t : Bool) (p4 : List (List RD)) (p5 : Int) (K : List (List DV) → DV → Option FR) :
    denFS (envP PP eqT cs) (tabC (tab_spec_l13Seen)) (t_spec_l13Seen ) fin_spec_l13Seen (fnO 76) fuel [.agg [.ro (.lit (.int .i64 p1)), .ro (.lit (.int .i64 p2)), .ro (.lit (.int .i64 p3)), .ro (.sl p4t p4)], .ro (.lit (.int .i64 p5))] K = F_spec_l13Seen   p1 p2 p3 p4t p4 p5 (fun r1 => K [] (.ro (.lit (.bool r1)))) := by kernel_rfl
theorem va_spec_l13Seen (cs) (hC : CsOK (envP PP eqT cs) (tabC (tab_spec_l13Seen))) : Valid (envP PP eqT cs) fuel (t_spec_l13Seen ) (bodyOf (fnO 76)) := trivial
theorem good_spec_l13Seen : Good PP 76 (C_spec_l13Seen S_spec_l13Seen) :=
  good_fn (tab := tab_spec_l13Seen) hmix heq Tab.nil (show PP.funcs[76]? = some (fnO 76) by kernel_rfl) (show takes (fnO 76) = true by kernel_rfl) va_spec_l13Seen (by
    intro cs args K r h
    unfold C_spec_l13Seen at h
    replace h := lCons_some h; obtain ⟨a1_, t2_, rfl, h⟩ := h; replace h := dAgg_some h; obtain ⟨c3_, rfl, h⟩ := h; replace h := lCons_some h; obtain ⟨a4_, t5_, rfl, h⟩ := h; replace h := dRo_some h; obtain ⟨d6_, rfl, h⟩ := h; replace h := rInt_some h; obtain ⟨p1, rfl, h⟩ := h; replace h := lCons_some h; obtain ⟨a7_, t8_, rfl, h⟩ := h; replace h := dRo_some h; obtain ⟨d9_, rfl, h⟩ := h; replace h := rInt_some h; obtain ⟨p2, rfl, h⟩ := h; replace h := lCons_some h; obtain ⟨a10_, t11_, rfl, h⟩ := h; replace h := dRo_some h; obtain ⟨d12_, rfl, h⟩ := h; replace h := rInt_some h; obtain ⟨p3, rfl, h⟩ := h; replace h := lCons_some h; obtain ⟨a13_, t14_, rfl, h⟩ := h; replace h := dRo_some h; obtain ⟨d15_, rfl, h⟩ := h; replace h := rSl_some h; obtain ⟨p4t, p4, rfl, h⟩ := h; replace h := lNil_some h; obtain ⟨rfl, h⟩ := h; replace h := lCons_some h; obtain ⟨a16_, t17_, rfl, h⟩ := h; replace h := dRo_some h; obtain ⟨d18_, rfl, h⟩ := h; replace h := rInt_some h; obtain ⟨p5, rfl, h⟩ := h; replace h := lNil_some h; obtain ⟨rfl, h⟩ := h
    exact (fs_spec_l13Seen cs   _ _ _ _ _ _ K).trans h)
noncomputable def tab_spec_SeenAt (s_spec_VersionsOk : T_spec_VersionsOk) (s_spec_l13Seen : T_spec_l13Seen) (s_spec_l3Own : T_spec_l3Own) : List (Nat × SmC) := [(47, C_spec_VersionsOk s_spec_VersionsOk), (76, C_spec_l13Seen s_spec_l13Seen), (77, C_spec_l3Own s_spec_l3Own)]
abbrev I_spec_SeenAt_0 := Bool × List (List RD) × Int × Int
abbrev V_spec_SeenAt_0 := Int
def h_spec_SeenAt_0 : Hint := ⟨⟨[(0, 23), (1, 3), (2, 3), (8, 3)], [], []⟩, [(2, ⟨[], [], []⟩), (1, ⟨[(6, 49), (7, 4)], [], []⟩)]⟩
def d_spec_SeenAt_0 (a : List AV) (o : List OB) : Option (I_spec_SeenAt_0 × V_spec_SeenAt_0) :=
  lCons a fun a1_ t2_ => aRd a1_ fun d3_ => rSl d3_ fun v1t v1 => lCons t2_ fun a4_ t5_ => aRd a4_ fun d6_ => rInt .i64 d6_ fun v2 => lCons t5_ fun a7_ t8_ => aRd a7_ fun d9_ => rInt .i64 d9_ fun v3 => lCons t8_ fun a10_ t11_ => aRd a10_ fun d12_ => rInt .i64 d12_ fun v4 => lNil t11_ <| lNil o <|
  some ((v1t, v1, v2, v3), v4)
def ea_spec_SeenAt_0 (p : I_spec_SeenAt_0) (v : V_spec_SeenAt_0) : List AV := [.rd (.sl p.1 p.2.1), .rd (.lit (.int .i64 p.2.2.1)), .rd (.lit (.int .i64 p.2.2.2)), .rd (.lit (.int .i64 v))]
def eo_spec_SeenAt_0 (p : I_spec_SeenAt_0) (v : V_spec_SeenAt_0) : List OB := []
def g_spec_SeenAt_0 (l : TL_spec_SeenAt_0) : Sg := fun a o K => match d_spec_SeenAt_0 a o with
  | some (p, v) => l (fun z26t z27 z28 => K .ret [.aref 0 z26t, .rd (.lit (.bool z27))] [(some (.arr 3 true z28), false)]) (K (.exit 0) [] []) p.1 p.2.1 p.2.2.1 p.2.2.2 v
  | none => none
def x_spec_SeenAt_0  : ST := .o
def t_spec_SeenAt_0 (s : Sg) : ST := .n (some h_spec_SeenAt_0) (some s) (x_spec_SeenAt_0 ) .o
theorem st_spec_SeenAt_0 (cs) (s_spec_VersionsOk : T_spec_VersionsOk) (s_spec_l13Seen : T_spec_l13Seen) (s_spec_l3Own : T_spec_l3Own)  (K : Ex → List AV → List OB → Option FR) (rc : List AV → List OB → Option FR) (p : I_spec_SeenAt_0) (v : V_spec_SeenAt_0) :
    denS (envP PP eqT cs) (tabC (tab_spec_SeenAt s_spec_VersionsOk s_spec_l13Seen s_spec_l3Own)) fuel (cAt (bodyOf (fnO 51)) [1, 0, 1, 0, 0]) (x_spec_SeenAt_0 ) (mkSt h_spec_SeenAt_0.live (ea_spec_SeenAt_0 p v) (eo_spec_SeenAt_0 p v)) (fun e st' => match e with
        | .normal => canon (envP PP eqT cs) h_spec_SeenAt_0.live st' rc
        | .exit i => outK (envP PP eqT cs) h_spec_SeenAt_0.outs (.exit i) st' fun a o _ => K (.exit i) a o
        | .ret => outK (envP PP eqT cs) h_spec_SeenAt_0.outs .ret st' fun a o _ => K .ret a o)
      = B_spec_SeenAt_0 s_spec_VersionsOk s_spec_l13Seen s_spec_l3Own  (fun z29t z30 z31 => K .ret [.aref 0 z29t, .rd (.lit (.bool z30))] [(some (.arr 3 true z31), false)]) (K (.exit 0) [] []) p.1 p.2.1 p.2.2.1 p.2.2.2 (fun y0 => rc (ea_spec_SeenAt_0 p y0) (eo_spec_SeenAt_0 p y0)) v := by kernel_rfl
theorem v_spec_SeenAt_0 (cs) (hC : CsOK (envP PP eqT cs) (tabC (tab_spec_SeenAt S_spec_VersionsOk S_spec_l13Seen S_spec_l3Own))) : Valid (envP PP eqT cs) fuel (x_spec_SeenAt_0 ) (cAt (bodyOf (fnO 51)) [1, 0, 1, 0, 0]) := trivial
theorem sg_spec_SeenAt_0 (cs) (hC : CsOK (envP PP eqT cs) (tabC (tab_spec_SeenAt S_spec_VersionsOk S_spec_l13Seen S_spec_l3Own))) : SgOK (envP PP eqT cs) (t_spec_SeenAt_0  (g_spec_SeenAt_0 G_spec_SeenAt_0)) (fun st K => denLoop (envP PP eqT cs) (hLive (some h_spec_SeenAt_0)) (den (envP PP eqT cs) fuel (cAt (bodyOf (fnO 51)) [1, 0, 1, 0, 0]) (x_spec_SeenAt_0 )) fuel st K) :=
  loop_sg hC d_spec_SeenAt_0 ea_spec_SeenAt_0 eo_spec_SeenAt_0 (fun a o p v h => by unfold d_spec_SeenAt_0 at h; replace h := lCons_some h; obtain ⟨a1_, t2_, rfl, h⟩ := h; replace h := aRd_some h; obtain ⟨d3_, rfl, h⟩ := h; replace h := rSl_some h; obtain ⟨v1t, v1, rfl, h⟩ := h; replace h := lCons_some h; obtain ⟨a4_, t5_, rfl, h⟩ := h; replace h := aRd_some h; obtain ⟨d6_, rfl, h⟩ := h; replace h := rInt_some h; obtain ⟨v2, rfl, h⟩ := h; replace h := lCons_some h; obtain ⟨a7_, t8_, rfl, h⟩ := h; replace h := aRd_some h; obtain ⟨d9_, rfl, h⟩ := h; replace h := rInt_some h; obtain ⟨v3, rfl, h⟩ := h; replace h := lCons_some h; obtain ⟨a10_, t11_, rfl, h⟩ := h; replace h := aRd_some h; obtain ⟨d12_, rfl, h⟩ := h; replace h := rInt_some h; obtain ⟨v4, rfl, h⟩ := h; replace h := lNil_some h; obtain ⟨rfl, h⟩ := h; replace h := lNil_some h; obtain ⟨rfl, h⟩ := h; cases h; exact ⟨rfl, rfl⟩)
    (fun K p rc v => B_spec_SeenAt_0 S_spec_VersionsOk S_spec_l13Seen S_spec_l3Own  (fun z29t z30 z31 => K .ret [.aref 0 z29t, .rd (.lit (.bool z30))] [(some (.arr 3 true z31), false)]) (K (.exit 0) [] []) p.1 p.2.1 p.2.2.1 p.2.2.2 (fun y0 => rc y0) v)
    (fun K p n v => L_spec_SeenAt_0 S_spec_VersionsOk S_spec_l13Seen S_spec_l3Own  (fun z29t z30 z31 => K .ret [.aref 0 z29t, .rd (.lit (.bool z30))] [(some (.arr 3 true z31), false)]) (K (.exit 0) [] []) p.1 p.2.1 p.2.2.1 p.2.2.2 n v) (fun K p v => rfl) (fun K p n v => rfl) (by kernel_rfl) (v_spec_SeenAt_0 cs hC)
    (fun K rc p v => st_spec_SeenAt_0 cs S_spec_VersionsOk S_spec_l13Seen S_spec_l3Own  K rc p v)
def t_spec_SeenAt (l0 : TL_spec_SeenAt_0) : ST := (.n none none .o (.n none none (.n none none .o (.n none none (t_spec_SeenAt_0 (g_spec_SeenAt_0 l0)) .o)) .o))
def fin_spec_SeenAt : Option Live := none
theorem fs_spec_SeenAt (cs) (s_spec_VersionsOk : T_spec_VersionsOk) (s_spec_l13Seen : T_spec_l13Seen) (s_spec_l3Own : T_spec_l3Own) (l0 : TL_spec_SeenAt_0) (p1t : Bool) (p1 : List (List RD)) (p2 : Int) (p3 : Int) (K : List (List DV) → DV → Option FR) :
    denFS (envP PP eqT cs) (tabC (tab_spec_SeenAt s_spec_VersionsOk s_spec_l13Seen s_spec_l3Own)) (t_spec_SeenAt l0) fin_spec_SeenAt (fnO 51) fuel [.ro (.sl p1t p1), .ro (.lit (.int .i64 p2)), .ro (.lit (.int .i64 p3))] K = F_spec_SeenAt  l0 p1t p1 p2 p3 (fun r1t r1 r2 => K [] (.tup [.own 3 r1t r1, .ro (.lit (.bool r2))])) := by kernel_rfl
theorem va_spec_SeenAt (cs) (hC : CsOK (envP PP eqT cs) (tabC (tab_spec_SeenAt S_spec_VersionsOk S_spec_l13Seen S_spec_l3Own))) : Valid (envP PP eqT cs) fuel (t_spec_SeenAt G_spec_SeenAt_0) (bodyOf (fnO 51)) := ⟨⟨trivial, ⟨⟨⟨⟨trivial, ⟨⟨v_spec_SeenAt_0 cs hC, sg_spec_SeenAt_0 cs hC⟩, sg_none⟩⟩, sg_none⟩, trivial⟩, sg_none⟩⟩, sg_none⟩
theorem good_spec_SeenAt : Good PP 51 (C_spec_SeenAt S_spec_SeenAt) :=
  good_fn (tab := tab_spec_SeenAt S_spec_VersionsOk S_spec_l13Seen S_spec_l3Own) hmix heq (Tab.cons good_spec_VersionsOk (Tab.cons good_spec_l13Seen (Tab.cons good_spec_l3Own Tab.nil))) (show PP.funcs[51]? = some (fnO 51) by kernel_rfl) (show takes (fnO 51) = true by kernel_rfl) va_spec_SeenAt (by
    intro cs args K r h
    unfold C_spec_SeenAt at h
    replace h := lCons_some h; obtain ⟨a1_, t2_, rfl, h⟩ := h; replace h := dRo_some h; obtain ⟨d3_, rfl, h⟩ := h; replace h := rSl_some h; obtain ⟨p1t, p1, rfl, h⟩ := h; replace h := lCons_some h; obtain ⟨a4_, t5_, rfl, h⟩ := h; replace h := dRo_some h; obtain ⟨d6_, rfl, h⟩ := h; replace h := rInt_some h; obtain ⟨p2, rfl, h⟩ := h; replace h := lCons_some h; obtain ⟨a7_, t8_, rfl, h⟩ := h; replace h := dRo_some h; obtain ⟨d9_, rfl, h⟩ := h; replace h := rInt_some h; obtain ⟨p3, rfl, h⟩ := h; replace h := lNil_some h; obtain ⟨rfl, h⟩ := h
    exact (fs_spec_SeenAt cs S_spec_VersionsOk S_spec_l13Seen S_spec_l3Own G_spec_SeenAt_0 _ _ _ _ K).trans h)
noncomputable def tab_spec_RowsAt (s_spec_SeenAt : T_spec_SeenAt) : List (Nat × SmC) := [(51, C_spec_SeenAt s_spec_SeenAt)]
abbrev I_spec_RowsAt_0 := Bool × List (List RD) × Int
abbrev V_spec_RowsAt_0 := Bool × Int × List (List RD)
def h_spec_RowsAt_0 : Hint := ⟨⟨[(0, 23), (1, 3), (5, 28), (6, 3)], [], []⟩, [(2, ⟨[(5, 28)], [], []⟩)]⟩
def d_spec_RowsAt_0 (a : List AV) (o : List OB) : Option (I_spec_RowsAt_0 × V_spec_RowsAt_0) :=
  lCons a fun a1_ t2_ => aRd a1_ fun d3_ => rSl d3_ fun v1t v1 => lCons t2_ fun a4_ t5_ => aRd a4_ fun d6_ => rInt .i64 d6_ fun v2 => lCons t5_ fun a7_ t8_ => aRef 0 a7_ fun v3t => lCons t8_ fun a9_ t10_ => aRd a9_ fun d11_ => rInt .i64 d11_ fun v4 => lNil t10_ <| lCons o fun a12_ t13_ => oArr 1 true false a12_ fun v5 => lNil t13_ <|
  some ((v1t, v1, v2), (v3t, v4, v5))
def ea_spec_RowsAt_0 (p : I_spec_RowsAt_0) (v : V_spec_RowsAt_0) : List AV := [.rd (.sl p.1 p.2.1), .rd (.lit (.int .i64 p.2.2)), .aref 0 v.1, .rd (.lit (.int .i64 v.2.1))]
def eo_spec_RowsAt_0 (p : I_spec_RowsAt_0) (v : V_spec_RowsAt_0) : List OB := [(some (.arr 1 true v.2.2), false)]
def g_spec_RowsAt_0 (l : TL_spec_RowsAt_0) : Sg := fun a o K => match d_spec_RowsAt_0 a o with
  | some (p, v) => l (fun z12t z13 => K (.exit 0) [.aref 0 z12t] [(some (.arr 1 true z13), false)]) p.1 p.2.1 p.2.2 v.1 v.2.1 v.2.2
  | none => none
def x_spec_RowsAt_0  : ST := .o
def t_spec_RowsAt_0 (s : Sg) : ST := .n (some h_spec_RowsAt_0) (some s) (x_spec_RowsAt_0 ) .o
theorem st_spec_RowsAt_0 (cs) (s_spec_SeenAt : T_spec_SeenAt)  (K : Ex → List AV → List OB → Option FR) (rc : List AV → List OB → Option FR) (p : I_spec_RowsAt_0) (v : V_spec_RowsAt_0) :
    denS (envP PP eqT cs) (tabC (tab_spec_RowsAt s_spec_SeenAt)) fuel (cAt (bodyOf (fnO 23)) [1, 1, 0, 1, 0, 0]) (x_spec_RowsAt_0 ) (mkSt h_spec_RowsAt_0.live (ea_spec_RowsAt_0 p v) (eo_spec_RowsAt_0 p v)) (fun e st' => match e with
        | .normal => canon (envP PP eqT cs) h_spec_RowsAt_0.live st' rc
        | .exit i => outK (envP PP eqT cs) h_spec_RowsAt_0.outs (.exit i) st' fun a o _ => K (.exit i) a o
        | .ret => outK (envP PP eqT cs) h_spec_RowsAt_0.outs .ret st' fun a o _ => K .ret a o)
      = B_spec_RowsAt_0 s_spec_SeenAt  (fun z14t z15 => K (.exit 0) [.aref 0 z14t] [(some (.arr 1 true z15), false)]) p.1 p.2.1 p.2.2 (fun y0 y1 y2 => rc (ea_spec_RowsAt_0 p (y0, y1, y2)) (eo_spec_RowsAt_0 p (y0, y1, y2))) v.1 v.2.1 v.2.2 := by kernel_rfl
theorem v_spec_RowsAt_0 (cs) (hC : CsOK (envP PP eqT cs) (tabC (tab_spec_RowsAt S_spec_SeenAt))) : Valid (envP PP eqT cs) fuel (x_spec_RowsAt_0 ) (cAt (bodyOf (fnO 23)) [1, 1, 0, 1, 0, 0]) := trivial
theorem sg_spec_RowsAt_0 (cs) (hC : CsOK (envP PP eqT cs) (tabC (tab_spec_RowsAt S_spec_SeenAt))) : SgOK (envP PP eqT cs) (t_spec_RowsAt_0  (g_spec_RowsAt_0 G_spec_RowsAt_0)) (fun st K => denLoop (envP PP eqT cs) (hLive (some h_spec_RowsAt_0)) (den (envP PP eqT cs) fuel (cAt (bodyOf (fnO 23)) [1, 1, 0, 1, 0, 0]) (x_spec_RowsAt_0 )) fuel st K) :=
  loop_sg hC d_spec_RowsAt_0 ea_spec_RowsAt_0 eo_spec_RowsAt_0 (fun a o p v h => by unfold d_spec_RowsAt_0 at h; replace h := lCons_some h; obtain ⟨a1_, t2_, rfl, h⟩ := h; replace h := aRd_some h; obtain ⟨d3_, rfl, h⟩ := h; replace h := rSl_some h; obtain ⟨v1t, v1, rfl, h⟩ := h; replace h := lCons_some h; obtain ⟨a4_, t5_, rfl, h⟩ := h; replace h := aRd_some h; obtain ⟨d6_, rfl, h⟩ := h; replace h := rInt_some h; obtain ⟨v2, rfl, h⟩ := h; replace h := lCons_some h; obtain ⟨a7_, t8_, rfl, h⟩ := h; replace h := aRef_some h; obtain ⟨v3t, rfl, h⟩ := h; replace h := lCons_some h; obtain ⟨a9_, t10_, rfl, h⟩ := h; replace h := aRd_some h; obtain ⟨d11_, rfl, h⟩ := h; replace h := rInt_some h; obtain ⟨v4, rfl, h⟩ := h; replace h := lNil_some h; obtain ⟨rfl, h⟩ := h; replace h := lCons_some h; obtain ⟨a12_, t13_, rfl, h⟩ := h; replace h := oArr_some h; obtain ⟨v5, rfl, h⟩ := h; replace h := lNil_some h; obtain ⟨rfl, h⟩ := h; cases h; exact ⟨rfl, rfl⟩)
    (fun K p rc v => B_spec_RowsAt_0 S_spec_SeenAt  (fun z14t z15 => K (.exit 0) [.aref 0 z14t] [(some (.arr 1 true z15), false)]) p.1 p.2.1 p.2.2 (fun y0 y1 y2 => rc (y0, y1, y2)) v.1 v.2.1 v.2.2)
    (fun K p n v => L_spec_RowsAt_0 S_spec_SeenAt  (fun z14t z15 => K (.exit 0) [.aref 0 z14t] [(some (.arr 1 true z15), false)]) p.1 p.2.1 p.2.2 n v.1 v.2.1 v.2.2) (fun K p v => rfl) (fun K p n v => rfl) (by kernel_rfl) (v_spec_RowsAt_0 cs hC)
    (fun K rc p v => st_spec_RowsAt_0 cs S_spec_SeenAt  K rc p v)
def t_spec_RowsAt (l0 : TL_spec_RowsAt_0) : ST := (.n none none .o (.n none none .o (.n none none (.n none none .o (.n none none (t_spec_RowsAt_0 (g_spec_RowsAt_0 l0)) .o)) .o)))
def fin_spec_RowsAt : Option Live := none
theorem fs_spec_RowsAt (cs) (s_spec_SeenAt : T_spec_SeenAt) (l0 : TL_spec_RowsAt_0) (p1t : Bool) (p1 : List (List RD)) (p2 : Int) (K : List (List DV) → DV → Option FR) :
    denFS (envP PP eqT cs) (tabC (tab_spec_RowsAt s_spec_SeenAt)) (t_spec_RowsAt l0) fin_spec_RowsAt (fnO 23) fuel [.ro (.sl p1t p1), .ro (.lit (.int .i64 p2))] K = F_spec_RowsAt  l0 p1t p1 p2 (fun r1t r1 => K [] (.own 1 r1t r1)) := by kernel_rfl
theorem va_spec_RowsAt (cs) (hC : CsOK (envP PP eqT cs) (tabC (tab_spec_RowsAt S_spec_SeenAt))) : Valid (envP PP eqT cs) fuel (t_spec_RowsAt G_spec_RowsAt_0) (bodyOf (fnO 23)) := ⟨⟨trivial, ⟨⟨trivial, ⟨⟨⟨⟨trivial, ⟨⟨v_spec_RowsAt_0 cs hC, sg_spec_RowsAt_0 cs hC⟩, sg_none⟩⟩, sg_none⟩, trivial⟩, sg_none⟩⟩, sg_none⟩⟩, sg_none⟩
theorem good_spec_RowsAt : Good PP 23 (C_spec_RowsAt S_spec_RowsAt) :=
  good_fn (tab := tab_spec_RowsAt S_spec_SeenAt) hmix heq (Tab.cons good_spec_SeenAt Tab.nil) (show PP.funcs[23]? = some (fnO 23) by kernel_rfl) (show takes (fnO 23) = true by kernel_rfl) va_spec_RowsAt (by
    intro cs args K r h
    unfold C_spec_RowsAt at h
    replace h := lCons_some h; obtain ⟨a1_, t2_, rfl, h⟩ := h; replace h := dRo_some h; obtain ⟨d3_, rfl, h⟩ := h; replace h := rSl_some h; obtain ⟨p1t, p1, rfl, h⟩ := h; replace h := lCons_some h; obtain ⟨a4_, t5_, rfl, h⟩ := h; replace h := dRo_some h; obtain ⟨d6_, rfl, h⟩ := h; replace h := rInt_some h; obtain ⟨p2, rfl, h⟩ := h; replace h := lNil_some h; obtain ⟨rfl, h⟩ := h
    exact (fs_spec_RowsAt cs S_spec_SeenAt G_spec_RowsAt_0 _ _ _ K).trans h)
noncomputable def tab_spec_RowsNow (s_spec_HouseOk : T_spec_HouseOk) (s_spec_RowsAt : T_spec_RowsAt) : List (Nat × SmC) := [(22, C_spec_HouseOk s_spec_HouseOk), (23, C_spec_RowsAt s_spec_RowsAt)]
def t_spec_RowsNow  : ST := .o
def fin_spec_RowsNow : Option Live := none
theorem fs_spec_RowsNow (cs) (s_spec_HouseOk : T_spec_HouseOk) (s_spec_RowsAt : T_spec_RowsAt)  (p1t : Bool) (p1 : List (List RD)) (p2 : Int) (p3t : Bool) (p3 : List (List RD)) (K : List (List DV) → DV → Option FR) :
    denFS (envP PP eqT cs) (tabC (tab_spec_RowsNow s_spec_HouseOk s_spec_RowsAt)) (t_spec_RowsNow ) fin_spec_RowsNow (fnO 8) fuel [.agg [.ro (.sl p1t p1), .ro (.lit (.int .i64 p2)), .ro (.sl p3t p3)]] K = F_spec_RowsNow s_spec_HouseOk s_spec_RowsAt  p1t p1 p2 p3t p3 (fun r1t r1 => K [] (.own 1 r1t r1)) := by kernel_rfl
theorem va_spec_RowsNow (cs) (hC : CsOK (envP PP eqT cs) (tabC (tab_spec_RowsNow S_spec_HouseOk S_spec_RowsAt))) : Valid (envP PP eqT cs) fuel (t_spec_RowsNow ) (bodyOf (fnO 8)) := trivial
theorem good_spec_RowsNow : Good PP 8 (C_spec_RowsNow S_spec_RowsNow) :=
  good_fn (tab := tab_spec_RowsNow S_spec_HouseOk S_spec_RowsAt) hmix heq (Tab.cons good_spec_HouseOk (Tab.cons good_spec_RowsAt Tab.nil)) (show PP.funcs[8]? = some (fnO 8) by kernel_rfl) (show takes (fnO 8) = true by kernel_rfl) va_spec_RowsNow (by
    intro cs args K r h
    unfold C_spec_RowsNow at h
    replace h := lCons_some h; obtain ⟨a1_, t2_, rfl, h⟩ := h; replace h := dAgg_some h; obtain ⟨c3_, rfl, h⟩ := h; replace h := lCons_some h; obtain ⟨a4_, t5_, rfl, h⟩ := h; replace h := dRo_some h; obtain ⟨d6_, rfl, h⟩ := h; replace h := rSl_some h; obtain ⟨p1t, p1, rfl, h⟩ := h; replace h := lCons_some h; obtain ⟨a7_, t8_, rfl, h⟩ := h; replace h := dRo_some h; obtain ⟨d9_, rfl, h⟩ := h; replace h := rInt_some h; obtain ⟨p2, rfl, h⟩ := h; replace h := lCons_some h; obtain ⟨a10_, t11_, rfl, h⟩ := h; replace h := dRo_some h; obtain ⟨d12_, rfl, h⟩ := h; replace h := rSl_some h; obtain ⟨p3t, p3, rfl, h⟩ := h; replace h := lNil_some h; obtain ⟨rfl, h⟩ := h; replace h := lNil_some h; obtain ⟨rfl, h⟩ := h
    exact (fs_spec_RowsNow cs S_spec_HouseOk S_spec_RowsAt  _ _ _ _ _ K).trans h)
noncomputable def tab_laws_sameRow  : List (Nat × SmC) := []
abbrev I_laws_sameRow_0 := Bool × List (List RD) × Bool × List (List RD)
abbrev V_laws_sameRow_0 := Int
def h_laws_sameRow_0 : Hint := ⟨⟨[(0, 49), (1, 49), (5, 3)], [], []⟩, [(2, ⟨[], [], []⟩), (1, ⟨[(4, 4)], [], []⟩)]⟩
def d_laws_sameRow_0 (a : List AV) (o : List OB) : Option (I_laws_sameRow_0 × V_laws_sameRow_0) :=
  lCons a fun a1_ t2_ => aRd a1_ fun d3_ => rSl d3_ fun v1t v1 => lCons t2_ fun a4_ t5_ => aRd a4_ fun d6_ => rSl d6_ fun v2t v2 => lCons t5_ fun a7_ t8_ => aRd a7_ fun d9_ => rInt .i64 d9_ fun v3 => lNil t8_ <| lNil o <|
  some ((v1t, v1, v2t, v2), v3)
def ea_laws_sameRow_0 (p : I_laws_sameRow_0) (v : V_laws_sameRow_0) : List AV := [.rd (.sl p.1 p.2.1), .rd (.sl p.2.2.1 p.2.2.2), .rd (.lit (.int .i64 v))]
def eo_laws_sameRow_0 (p : I_laws_sameRow_0) (v : V_laws_sameRow_0) : List OB := []
def g_laws_sameRow_0 (l : TL_laws_sameRow_0) : Sg := fun a o K => match d_laws_sameRow_0 a o with
  | some (p, v) => l (fun z12 => K .ret [.rd (.lit (.bool z12))] []) (K (.exit 0) [] []) p.1 p.2.1 p.2.2.1 p.2.2.2 v
  | none => none
def x_laws_sameRow_0  : ST := .o
def t_laws_sameRow_0 (s : Sg) : ST := .n (some h_laws_sameRow_0) (some s) (x_laws_sameRow_0 ) .o
theorem st_laws_sameRow_0 (cs)   (K : Ex → List AV → List OB → Option FR) (rc : List AV → List OB → Option FR) (p : I_laws_sameRow_0) (v : V_laws_sameRow_0) :
    denS (envP PP eqT cs) (tabC (tab_laws_sameRow)) fuel (cAt (bodyOf (fnO 21)) [1, 1, 0, 1, 0, 0]) (x_laws_sameRow_0 ) (mkSt h_laws_sameRow_0.live (ea_laws_sameRow_0 p v) (eo_laws_sameRow_0 p v)) (fun e st' => match e with
        | .normal => canon (envP PP eqT cs) h_laws_sameRow_0.live st' rc
        | .exit i => outK (envP PP eqT cs) h_laws_sameRow_0.outs (.exit i) st' fun a o _ => K (.exit i) a o
        | .ret => outK (envP PP eqT cs) h_laws_sameRow_0.outs .ret st' fun a o _ => K .ret a o)
      = B_laws_sameRow_0   (fun z13 => K .ret [.rd (.lit (.bool z13))] []) (K (.exit 0) [] []) p.1 p.2.1 p.2.2.1 p.2.2.2 (fun y0 => rc (ea_laws_sameRow_0 p y0) (eo_laws_sameRow_0 p y0)) v := by kernel_rfl
theorem v_laws_sameRow_0 (cs) (hC : CsOK (envP PP eqT cs) (tabC (tab_laws_sameRow))) : Valid (envP PP eqT cs) fuel (x_laws_sameRow_0 ) (cAt (bodyOf (fnO 21)) [1, 1, 0, 1, 0, 0]) := trivial
theorem sg_laws_sameRow_0 (cs) (hC : CsOK (envP PP eqT cs) (tabC (tab_laws_sameRow))) : SgOK (envP PP eqT cs) (t_laws_sameRow_0  (g_laws_sameRow_0 G_laws_sameRow_0)) (fun st K => denLoop (envP PP eqT cs) (hLive (some h_laws_sameRow_0)) (den (envP PP eqT cs) fuel (cAt (bodyOf (fnO 21)) [1, 1, 0, 1, 0, 0]) (x_laws_sameRow_0 )) fuel st K) :=
  loop_sg hC d_laws_sameRow_0 ea_laws_sameRow_0 eo_laws_sameRow_0 (fun a o p v h => by unfold d_laws_sameRow_0 at h; replace h := lCons_some h; obtain ⟨a1_, t2_, rfl, h⟩ := h; replace h := aRd_some h; obtain ⟨d3_, rfl, h⟩ := h; replace h := rSl_some h; obtain ⟨v1t, v1, rfl, h⟩ := h; replace h := lCons_some h; obtain ⟨a4_, t5_, rfl, h⟩ := h; replace h := aRd_some h; obtain ⟨d6_, rfl, h⟩ := h; replace h := rSl_some h; obtain ⟨v2t, v2, rfl, h⟩ := h; replace h := lCons_some h; obtain ⟨a7_, t8_, rfl, h⟩ := h; replace h := aRd_some h; obtain ⟨d9_, rfl, h⟩ := h; replace h := rInt_some h; obtain ⟨v3, rfl, h⟩ := h; replace h := lNil_some h; obtain ⟨rfl, h⟩ := h; replace h := lNil_some h; obtain ⟨rfl, h⟩ := h; cases h; exact ⟨rfl, rfl⟩)
    (fun K p rc v => B_laws_sameRow_0   (fun z13 => K .ret [.rd (.lit (.bool z13))] []) (K (.exit 0) [] []) p.1 p.2.1 p.2.2.1 p.2.2.2 (fun y0 => rc y0) v)
    (fun K p n v => L_laws_sameRow_0   (fun z13 => K .ret [.rd (.lit (.bool z13))] []) (K (.exit 0) [] []) p.1 p.2.1 p.2.2.1 p.2.2.2 n v) (fun K p v => rfl) (fun K p n v => rfl) (by kernel_rfl) (v_laws_sameRow_0 cs hC)
    (fun K rc p v => st_laws_sameRow_0 cs   K rc p v)
def t_laws_sameRow (l0 : TL_laws_sameRow_0) : ST := (.n none none .o (.n none none .o (.n none none (.n none none .o (.n none none (t_laws_sameRow_0 (g_laws_sameRow_0 l0)) .o)) .o)))
def fin_laws_sameRow : Option Live := none
theorem fs_laws_sameRow (cs)  (l0 : TL_laws_sameRow_0) (p1t : Bool) (p1 : List (List RD)) (p2t : Bool) (p2 : List (List RD)) (K : List (List DV) → DV → Option FR) :
    denFS (envP PP eqT cs) (tabC (tab_laws_sameRow)) (t_laws_sameRow l0) fin_laws_sameRow (fnO 21) fuel [.ro (.sl p1t p1), .ro (.sl p2t p2)] K = F_laws_sameRow  l0 p1t p1 p2t p2 (fun r1 => K [] (.ro (.lit (.bool r1)))) := by kernel_rfl
theorem va_laws_sameRow (cs) (hC : CsOK (envP PP eqT cs) (tabC (tab_laws_sameRow))) : Valid (envP PP eqT cs) fuel (t_laws_sameRow G_laws_sameRow_0) (bodyOf (fnO 21)) := ⟨⟨trivial, ⟨⟨trivial, ⟨⟨⟨⟨trivial, ⟨⟨v_laws_sameRow_0 cs hC, sg_laws_sameRow_0 cs hC⟩, sg_none⟩⟩, sg_none⟩, trivial⟩, sg_none⟩⟩, sg_none⟩⟩, sg_none⟩
theorem good_laws_sameRow : Good PP 21 (C_laws_sameRow S_laws_sameRow) :=
  good_fn (tab := tab_laws_sameRow) hmix heq Tab.nil (show PP.funcs[21]? = some (fnO 21) by kernel_rfl) (show takes (fnO 21) = true by kernel_rfl) va_laws_sameRow (by
    intro cs args K r h
    unfold C_laws_sameRow at h
    replace h := lCons_some h; obtain ⟨a1_, t2_, rfl, h⟩ := h; replace h := dRo_some h; obtain ⟨d3_, rfl, h⟩ := h; replace h := rSl_some h; obtain ⟨p1t, p1, rfl, h⟩ := h; replace h := lCons_some h; obtain ⟨a4_, t5_, rfl, h⟩ := h; replace h := dRo_some h; obtain ⟨d6_, rfl, h⟩ := h; replace h := rSl_some h; obtain ⟨p2t, p2, rfl, h⟩ := h; replace h := lNil_some h; obtain ⟨rfl, h⟩ := h
    exact (fs_laws_sameRow cs  G_laws_sameRow_0 _ _ _ _ K).trans h)
end
end Go.Den
end
section
namespace Go.Den
open Go Go.Proofs
noncomputable section
set_option linter.unusedVariables false
set_option maxRecDepth 100000
noncomputable def tab_laws_sameRows (s_laws_sameRow : T_laws_sameRow) : List (Nat × SmC) := [(21, C_laws_sameRow s_laws_sameRow)]
abbrev I_laws_sameRows_0 := Bool × List (List RD) × Bool × List (List RD)
abbrev V_laws_sameRows_0 := Int
def h_laws_sameRows_0 : Hint := ⟨⟨[(0, 28), (1, 28), (5, 3)], [], []⟩, [(2, ⟨[], [], []⟩), (1, ⟨[(4, 4)], [], []⟩)]⟩
def d_laws_sameRows_0 (a : List AV) (o : List OB) : Option (I_laws_sameRows_0 × V_laws_sameRows_0) :=
  lCons a fun a1_ t2_ => aRd a1_ fun d3_ => rSl d3_ fun v1t v1 => lCons t2_ fun a4_ t5_ => aRd a4_ fun d6_ => rSl d6_ fun v2t v2 => lCons t5_ fun a7_ t8_ => aRd a7_ fun d9_ => rInt .i64 d9_ fun v3 => lNil t8_ <| lNil o <|
  some ((v1t, v1, v2t, v2), v3)
def ea_laws_sameRows_0 (p : I_laws_sameRows_0) (v : V_laws_sameRows_0) : List AV := [.rd (.sl p.1 p.2.1), .rd (.sl p.2.2.1 p.2.2.2), .rd (.lit (.int .i64 v))]
def eo_laws_sameRows_0 (p : I_laws_sameRows_0) (v : V_laws_sameRows_0) : List OB := []
def g_laws_sameRows_0 (l : TL_laws_sameRows_0) : Sg := fun a o K => match d_laws_sameRows_0 a o with
  | some (p, v) => l (fun z9 => K .ret [.rd (.lit (.bool z9))] []) (K (.exit 0) [] []) p.1 p.2.1 p.2.2.1 p.2.2.2 v
  | none => none
def x_laws_sameRows_0  : ST := .o
def t_laws_sameRows_0 (s : Sg) : ST := .n (some h_laws_sameRows_0) (some s) (x_laws_sameRows_0 ) .o
theorem st_laws_sameRows_0 (cs) (s_laws_sameRow : T_laws_sameRow)  (K : Ex → List AV → List OB → Option FR) (rc : List AV → List OB → Option FR) (p : I_laws_sameRows_0) (v : V_laws_sameRows_0) :
    denS (envP PP eqT cs) (tabC (tab_laws_sameRows s_laws_sameRow)) fuel (cAt (bodyOf (fnO 7)) [1, 1, 0, 1, 0, 0]) (x_laws_sameRows_0 ) (mkSt h_laws_sameRows_0.live (ea_laws_sameRows_0 p v) (eo_laws_sameRows_0 p v)) (fun e st' => match e with
        | .normal => canon (envP PP eqT cs) h_laws_sameRows_0.live st' rc
        | .exit i => outK (envP PP eqT cs) h_laws_sameRows_0.outs (.exit i) st' fun a o _ => K (.exit i) a o
        | .ret => outK (envP PP eqT cs) h_laws_sameRows_0.outs .ret st' fun a o _ => K .ret a o)
      = B_laws_sameRows_0 s_laws_sameRow  (fun z10 => K .ret [.rd (.lit (.bool z10))] []) (K (.exit 0) [] []) p.1 p.2.1 p.2.2.1 p.2.2.2 (fun y0 => rc (ea_laws_sameRows_0 p y0) (eo_laws_sameRows_0 p y0)) v := by kernel_rfl
theorem v_laws_sameRows_0 (cs) (hC : CsOK (envP PP eqT cs) (tabC (tab_laws_sameRows S_laws_sameRow))) : Valid (envP PP eqT cs) fuel (x_laws_sameRows_0 ) (cAt (bodyOf (fnO 7)) [1, 1, 0, 1, 0, 0]) := trivial
theorem sg_laws_sameRows_0 (cs) (hC : CsOK (envP PP eqT cs) (tabC (tab_laws_sameRows S_laws_sameRow))) : SgOK (envP PP eqT cs) (t_laws_sameRows_0  (g_laws_sameRows_0 G_laws_sameRows_0)) (fun st K => denLoop (envP PP eqT cs) (hLive (some h_laws_sameRows_0)) (den (envP PP eqT cs) fuel (cAt (bodyOf (fnO 7)) [1, 1, 0, 1, 0, 0]) (x_laws_sameRows_0 )) fuel st K) :=
  loop_sg hC d_laws_sameRows_0 ea_laws_sameRows_0 eo_laws_sameRows_0 (fun a o p v h => by unfold d_laws_sameRows_0 at h; replace h := lCons_some h; obtain ⟨a1_, t2_, rfl, h⟩ := h; replace h := aRd_some h; obtain ⟨d3_, rfl, h⟩ := h; replace h := rSl_some h; obtain ⟨v1t, v1, rfl, h⟩ := h; replace h := lCons_some h; obtain ⟨a4_, t5_, rfl, h⟩ := h; replace h := aRd_some h; obtain ⟨d6_, rfl, h⟩ := h; replace h := rSl_some h; obtain ⟨v2t, v2, rfl, h⟩ := h; replace h := lCons_some h; obtain ⟨a7_, t8_, rfl, h⟩ := h; replace h := aRd_some h; obtain ⟨d9_, rfl, h⟩ := h; replace h := rInt_some h; obtain ⟨v3, rfl, h⟩ := h; replace h := lNil_some h; obtain ⟨rfl, h⟩ := h; replace h := lNil_some h; obtain ⟨rfl, h⟩ := h; cases h; exact ⟨rfl, rfl⟩)
    (fun K p rc v => B_laws_sameRows_0 S_laws_sameRow  (fun z10 => K .ret [.rd (.lit (.bool z10))] []) (K (.exit 0) [] []) p.1 p.2.1 p.2.2.1 p.2.2.2 (fun y0 => rc y0) v)
    (fun K p n v => L_laws_sameRows_0 S_laws_sameRow  (fun z10 => K .ret [.rd (.lit (.bool z10))] []) (K (.exit 0) [] []) p.1 p.2.1 p.2.2.1 p.2.2.2 n v) (fun K p v => rfl) (fun K p n v => rfl) (by kernel_rfl) (v_laws_sameRows_0 cs hC)
    (fun K rc p v => st_laws_sameRows_0 cs S_laws_sameRow  K rc p v)
def t_laws_sameRows (l0 : TL_laws_sameRows_0) : ST := (.n none none .o (.n none none .o (.n none none (.n none none .o (.n none none (t_laws_sameRows_0 (g_laws_sameRows_0 l0)) .o)) .o)))
def fin_laws_sameRows : Option Live := none
theorem fs_laws_sameRows (cs) (s_laws_sameRow : T_laws_sameRow) (l0 : TL_laws_sameRows_0) (p1t : Bool) (p1 : List (List RD)) (p2t : Bool) (p2 : List (List RD)) (K : List (List DV) → DV → Option FR) :
    denFS (envP PP eqT cs) (tabC (tab_laws_sameRows s_laws_sameRow)) (t_laws_sameRows l0) fin_laws_sameRows (fnO 7) fuel [.ro (.sl p1t p1), .ro (.sl p2t p2)] K = F_laws_sameRows  l0 p1t p1 p2t p2 (fun r1 => K [] (.ro (.lit (.bool r1)))) := by kernel_rfl
theorem va_laws_sameRows (cs) (hC : CsOK (envP PP eqT cs) (tabC (tab_laws_sameRows S_laws_sameRow))) : Valid (envP PP eqT cs) fuel (t_laws_sameRows G_laws_sameRows_0) (bodyOf (fnO 7)) := ⟨⟨trivial, ⟨⟨trivial, ⟨⟨⟨⟨trivial, ⟨⟨v_laws_sameRows_0 cs hC, sg_laws_sameRows_0 cs hC⟩, sg_none⟩⟩, sg_none⟩, trivial⟩, sg_none⟩⟩, sg_none⟩⟩, sg_none⟩
theorem good_laws_sameRows : Good PP 7 (C_laws_sameRows S_laws_sameRows) :=
  good_fn (tab := tab_laws_sameRows S_laws_sameRow) hmix heq (Tab.cons good_laws_sameRow Tab.nil) (show PP.funcs[7]? = some (fnO 7) by kernel_rfl) (show takes (fnO 7) = true by kernel_rfl) va_laws_sameRows (by
    intro cs args K r h
    unfold C_laws_sameRows at h
    replace h := lCons_some h; obtain ⟨a1_, t2_, rfl, h⟩ := h; replace h := dRo_some h; obtain ⟨d3_, rfl, h⟩ := h; replace h := rSl_some h; obtain ⟨p1t, p1, rfl, h⟩ := h; replace h := lCons_some h; obtain ⟨a4_, t5_, rfl, h⟩ := h; replace h := dRo_some h; obtain ⟨d6_, rfl, h⟩ := h; replace h := rSl_some h; obtain ⟨p2t, p2, rfl, h⟩ := h; replace h := lNil_some h; obtain ⟨rfl, h⟩ := h
    exact (fs_laws_sameRows cs S_laws_sameRow G_laws_sameRows_0 _ _ _ _ K).trans h)
noncomputable def tab_impl_ValueOk (s_impl_Value_ok : T_impl_Value_ok) : List (Nat × SmC) := [(57, C_impl_Value_ok s_impl_Value_ok)]
def t_impl_ValueOk  : ST := .o
def fin_impl_ValueOk : Option Live := none
theorem fs_impl_ValueOk (cs) (s_impl_Value_ok : T_impl_Value_ok)  (p1 : Int) (p2 : Int) (p3 : ByteArray) (K : List (List DV) → DV → Option FR) :
    denFS (envP PP eqT cs) (tabC (tab_impl_ValueOk s_impl_Value_ok)) (t_impl_ValueOk ) fin_impl_ValueOk (fnO 28) fuel [.agg [.ro (.lit (.int .i64 p1)), .ro (.lit (.int .i64 p2)), .ro (.lit (.string p3))]] K = F_impl_ValueOk s_impl_Value_ok  p1 p2 p3 (fun r1 => K [] (.ro (.lit (.bool r1)))) := by kernel_rfl
theorem va_impl_ValueOk (cs) (hC : CsOK (envP PP eqT cs) (tabC (tab_impl_ValueOk S_impl_Value_ok))) : Valid (envP PP eqT cs) fuel (t_impl_ValueOk ) (bodyOf (fnO 28)) := trivial
theorem good_impl_ValueOk : Good PP 28 (C_impl_ValueOk S_impl_ValueOk) :=
  good_fn (tab := tab_impl_ValueOk S_impl_Value_ok) hmix heq (Tab.cons good_impl_Value_ok Tab.nil) (show PP.funcs[28]? = some (fnO 28) by kernel_rfl) (show takes (fnO 28) = true by kernel_rfl) va_impl_ValueOk (by
    intro cs args K r h
    unfold C_impl_ValueOk at h
    replace h := lCons_some h; obtain ⟨a1_, t2_, rfl, h⟩ := h; replace h := dAgg_some h; obtain ⟨c3_, rfl, h⟩ := h; replace h := lCons_some h; obtain ⟨a4_, t5_, rfl, h⟩ := h; replace h := dRo_some h; obtain ⟨d6_, rfl, h⟩ := h; replace h := rInt_some h; obtain ⟨p1, rfl, h⟩ := h; replace h := lCons_some h; obtain ⟨a7_, t8_, rfl, h⟩ := h; replace h := dRo_some h; obtain ⟨d9_, rfl, h⟩ := h; replace h := rInt_some h; obtain ⟨p2, rfl, h⟩ := h; replace h := lCons_some h; obtain ⟨a10_, t11_, rfl, h⟩ := h; replace h := dRo_some h; obtain ⟨d12_, rfl, h⟩ := h; replace h := rStr_some h; obtain ⟨p3, rfl, h⟩ := h; replace h := lNil_some h; obtain ⟨rfl, h⟩ := h; replace h := lNil_some h; obtain ⟨rfl, h⟩ := h
    exact (fs_impl_ValueOk cs S_impl_Value_ok  _ _ _ K).trans h)
noncomputable def tab_laws_alive (s_impl_ValueOk : T_impl_ValueOk) : List (Nat × SmC) := [(28, C_impl_ValueOk s_impl_ValueOk)]
def t_laws_alive  : ST := .o
def fin_laws_alive : Option Live := none
theorem fs_laws_alive (cs) (s_impl_ValueOk : T_impl_ValueOk)   (K : List (List DV) → DV → Option FR) :
    denFS (envP PP eqT cs) (tabC (tab_laws_alive s_impl_ValueOk)) (t_laws_alive ) fin_laws_alive (fnO 10) fuel [] K = F_laws_alive s_impl_ValueOk   (fun r1 => K [] (.ro (.lit (.bool r1)))) := by kernel_rfl
theorem va_laws_alive (cs) (hC : CsOK (envP PP eqT cs) (tabC (tab_laws_alive S_impl_ValueOk))) : Valid (envP PP eqT cs) fuel (t_laws_alive ) (bodyOf (fnO 10)) := trivial
theorem good_laws_alive : Good PP 10 (C_laws_alive S_laws_alive) :=
  good_fn (tab := tab_laws_alive S_impl_ValueOk) hmix heq (Tab.cons good_impl_ValueOk Tab.nil) (show PP.funcs[10]? = some (fnO 10) by kernel_rfl) (show takes (fnO 10) = true by kernel_rfl) va_laws_alive (by
    intro cs args K r h
    unfold C_laws_alive at h
    replace h := lNil_some h; obtain ⟨rfl, h⟩ := h
    exact (fs_laws_alive cs S_impl_ValueOk   K).trans h)
noncomputable def tab_laws_FnRowsNow (s_spec_DrawRowsNow : T_spec_DrawRowsNow) (s_impl_RowsNow : T_impl_RowsNow) (s_spec_RowsNow : T_spec_RowsNow) (s_laws_sameRows : T_laws_sameRows) (s_impl_HouseOk : T_impl_HouseOk) (s_impl_RowsAt : T_impl_RowsAt) (s_laws_alive : T_laws_alive) : List (Nat × SmC) := [(5, C_spec_DrawRowsNow s_spec_DrawRowsNow), (6, C_impl_RowsNow s_impl_RowsNow), (8, C_spec_RowsNow s_spec_RowsNow), (7, C_laws_sameRows s_laws_sameRows), (9, C_impl_HouseOk s_impl_HouseOk), (11, C_impl_RowsAt s_impl_RowsAt), (10, C_laws_alive s_laws_alive)]
def t_laws_FnRowsNow  : ST := .o
def fin_laws_FnRowsNow : Option Live := none
theorem fs_laws_FnRowsNow (cs) (s_spec_DrawRowsNow : T_spec_DrawRowsNow) (s_impl_RowsNow : T_impl_RowsNow) (s_spec_RowsNow : T_spec_RowsNow) (s_laws_sameRows : T_laws_sameRows) (s_impl_HouseOk : T_impl_HouseOk) (s_impl_RowsAt : T_impl_RowsAt) (s_laws_alive : T_laws_alive)  (p1t : Bool) (p1 : List (List RD)) (K : List (List DV) → DV → Option FR) :
    denFS (envP PP eqT cs) (tabC (tab_laws_FnRowsNow s_spec_DrawRowsNow s_impl_RowsNow s_spec_RowsNow s_laws_sameRows s_impl_HouseOk s_impl_RowsAt s_laws_alive)) (t_laws_FnRowsNow ) fin_laws_FnRowsNow (fnO 3) fuel [.ro (.sl p1t p1)] K = F_laws_FnRowsNow s_spec_DrawRowsNow s_impl_RowsNow s_spec_RowsNow s_laws_sameRows s_impl_HouseOk s_impl_RowsAt s_laws_alive  p1t p1 (fun r1 => K [] (.ro (.lit (.bool r1)))) := by kernel_rfl
theorem va_laws_FnRowsNow (cs) (hC : CsOK (envP PP eqT cs) (tabC (tab_laws_FnRowsNow S_spec_DrawRowsNow S_impl_RowsNow S_spec_RowsNow S_laws_sameRows S_impl_HouseOk S_impl_RowsAt S_laws_alive))) : Valid (envP PP eqT cs) fuel (t_laws_FnRowsNow ) (bodyOf (fnO 3)) := trivial
theorem good_laws_FnRowsNow : Good PP 3 (C_laws_FnRowsNow S_laws_FnRowsNow) :=
  good_fn (tab := tab_laws_FnRowsNow S_spec_DrawRowsNow S_impl_RowsNow S_spec_RowsNow S_laws_sameRows S_impl_HouseOk S_impl_RowsAt S_laws_alive) hmix heq (Tab.cons good_spec_DrawRowsNow (Tab.cons good_impl_RowsNow (Tab.cons good_spec_RowsNow (Tab.cons good_laws_sameRows (Tab.cons good_impl_HouseOk (Tab.cons good_impl_RowsAt (Tab.cons good_laws_alive Tab.nil))))))) (show PP.funcs[3]? = some (fnO 3) by kernel_rfl) (show takes (fnO 3) = true by kernel_rfl) va_laws_FnRowsNow (by
    intro cs args K r h
    unfold C_laws_FnRowsNow at h
    replace h := lCons_some h; obtain ⟨a1_, t2_, rfl, h⟩ := h; replace h := dRo_some h; obtain ⟨d3_, rfl, h⟩ := h; replace h := rSl_some h; obtain ⟨p1t, p1, rfl, h⟩ := h; replace h := lNil_some h; obtain ⟨rfl, h⟩ := h
    exact (fs_laws_FnRowsNow cs S_spec_DrawRowsNow S_impl_RowsNow S_spec_RowsNow S_laws_sameRows S_impl_HouseOk S_impl_RowsAt S_laws_alive  _ _ K).trans h)
end
end Go.Den
end
