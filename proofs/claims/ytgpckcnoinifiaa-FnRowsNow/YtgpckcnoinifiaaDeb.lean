/- A part of the proof: what a function of plain data and slices does, told without the machine, and that the machine does so. -/
import Derived.Test.YtgpckcnoinifiaaDea
import Derived.Lib.ConvBytes
import Derived.Laws.BytesString
import Derived.Orders
import Derived.LoopN
section
namespace Go.Den
open Go
set_option linter.unusedSimpArgs false
set_option linter.unusedVariables false
section
variable {P : Program} {E : Env} {w0 w w' : World} {rs : List Nat} {cs : Cs} {m m' : Gm} {cl : Nat → List Nat} {fr fr' : Nat → Prop} {st : St} {tmps : Array Value}
variable {a : Act} {o : Oper} {nb : Nat} {v : AV} {us : List Upd}
variable (ET : ∀ t ti, E.tt t = some ti → ttOf P t = some ti)
theorem RV_one : ∀ {ds : List RD} {vs : List Value} {gs : List Nat}, RV w ds vs gs → ∀ v ∈ vs, v.oneCell' = true
  | [], vs, gs, h => by simp only [RV] at h; simp [h.1]
  | d :: ds, vs, gs, h => by
    simp only [RV] at h
    obtain ⟨v, us, f, g, rfl, h2, h3, _⟩ := h
    intro u hu
    rcases List.mem_cons.1 hu with rfl | hu
    · exact RR_one h2
    · exact RV_one h3 u hu
theorem own_pre (R : Rel w0 rs cs m cl fr st tmps w) {id k n : Nat} {deep t : Bool} {ys : List (List RD)} {v : Value} (hb : st.ob id = some (.arr k deep ys)) (hn : n ≤ ys.length) (h : SlV m w id k 0 n t v) :
    ∃ A c os g, v = .slice A n c ∧ n ≤ c ∧ RV w (ys.take n).flatten os g ∧ os.length = n * k ∧ (∀ x ∈ ys.take n, x.length = k) ∧ Froz m st w g ∧
      (deep = true → st.pm id = false → g.Nodup ∧ ∀ x ∈ g, x ∈ ownL m cl id) ∧ (∀ d, (Builtin.firstCells k n v).run P (drawW w d) = .ok ⟨os⟩ (drawW w d)) ∧
      ((n = 0 ∧ c = 0) ∨ ∃ b cc e rest, A = some ⟨b, 0, none⟩ ∧ m id = some b ∧ w.heap[b]? = some (.cells cc e (0, 0)) ∧ c * k ≤ cc.size ∧ cc.toList = os ++ rest) := by
  obtain ⟨A, c, rfl, h2, _, h4⟩ := h
  obtain ⟨f, hO, hF, hcl⟩ := R.ob id _ hb
  rcases h4 with ⟨rfl, rfl⟩ | ⟨b, hm, rfl, hle⟩
  · refine ⟨A, 0, [], [], rfl, Nat.le_refl _, by simp [RV], by simp, by simp, froz_nil, fun _ _ => ⟨by simp, by simp⟩, fun d => ?_, .inl ⟨rfl, rfl⟩⟩
    cases A with
    | none => simp [Builtin.firstCells, run_pure]
    | some a => simp [Builtin.firstCells, loadCells, loadCellsFrom, run_pure]
  · rcases hO with ⟨_, h0, _⟩ | ⟨b', cc, e, hm', hw, hsz, hE⟩
    · have h0 : m id = none := h0
      rw [h0] at hm; cases hm
    · have hbb : b' = b := Option.some.inj (Eq.trans (Eq.symm (show m id = some b' from hm')) hm)
      subst hbb
      rw [← List.take_append_drop n ys, RE_append] at hE
      obtain ⟨f1, f2, hE1, _, rfl⟩ := hE
      obtain ⟨hk, os, hV, hl, hc⟩ := RE_vals hE1
      have hlen : (ys.take n).length = n := List.length_take_of_le hn
      rw [hlen] at hl
      obtain ⟨rest, hr⟩ := cells_pre hw hc
      refine ⟨_, c, os, f1, rfl, h2, hV, hl, hk, hF.sub (fun x hx => by simp [hx]), fun hd hp => ?_, fun d => ?_, .inr ⟨b', cc, e, rest, by simp, hm, hw, ?_, hr⟩⟩
      · have hfc := hcl hd hp
        have hnd := (R.cl1 id _ hb hd hp).1
        rw [← hfc] at hnd
        exact ⟨(List.nodup_append.1 hnd).1, fun x hx => by simp only [ownL, List.mem_append]; rw [← hfc]; simp [hx]⟩
      · simp only [Builtin.firstCells]
        rw [Nat.zero_mul]
        exact run_loadCells (w := drawW w d) hl (fun j hj => by rw [Nat.zero_add]; exact hc j hj)
      · simpa [World.bsz, hw] using hle
theorem join_claims (R : Rel w0 rs cs m cl fr st tmps w) {id k : Nat} {deep : Bool} {ys : List (List RD)} {s g gs : List Nat} (hb : st.ob id = some (.arr k deep ys)) (hp : st.pm id = false) (hd : deep = true)
    (h : g.Nodup ∧ ∀ x ∈ g, x ∈ ownL m cl id) (h2 : Claims m cl st s gs) (hn : id ∉ s) :
    (g ++ gs).Nodup ∧ (∀ b ∈ g ++ gs, b ∈ rs ∨ b ∈ cs ∨ w0.heap.size ≤ b) ∧ ∀ i o', i ≠ id → (st.upds (sealU s)).ob i = some o' → deepO o' = true → (st.upds (sealU s)).pm i = false → ∀ b ∈ g ++ gs, b ∉ cl i := by
  have c1 : Claims m cl st [id] g := ⟨h.1, fun x hx => ⟨id, by simp, ⟨_, hb, hd⟩, hp, h.2 x hx⟩⟩
  have c2 := c1.append R h2 (fun i hi => by simp at hi; subst hi; exact hn)
  obtain ⟨e1, e2, e3⟩ := claims_new R c2
  refine ⟨e1, e2, fun i o' hi ho hdo hpo => ?_⟩
  obtain ⟨p1, p2⟩ := seals_pm.1 hpo
  rw [seals_ob] at ho
  exact e3 i o' (by rw [seals_ob]; exact ho) hdo (seals_pm.2 ⟨p1, by simp [hi, p2]⟩)
theorem app_new (R : Rel w0 rs cs m cl fr st tmps w) (hfr : ∀ id, fr' id → fr id ∧ (id < nb ∨ nb + 64 ≤ id)) (hid : fr nb) {e k d cap : Nat} {deep : Bool} {els : List (List RD)} {vs rest : List Value} {gs : List Nat}
    (hk : ∀ x ∈ els, x.length = k) (hV : RV w els.flatten vs gs) (hF : Froz m st w gs) (hcap : els.length ≤ cap) (hrest : rest.length = (cap - els.length) * k)
    (hd : deep = true → gs.Nodup ∧ (∀ b ∈ gs, b ∈ rs ∨ b ∈ cs ∨ w0.heap.size ≤ b) ∧ ∀ i o', st.ob i = some o' → deepO o' = true → st.pm i = false → ∀ b ∈ gs, b ∉ cl i) :
    Aft w0 rs cs fr' (st.upd (.ob nb (some (.arr k deep els)))) tmps (.aref nb false) (.slice (some ⟨w.heap.size, 0, none⟩) els.length cap) (pushW (drawW w d) (.cells ⟨vs ++ rest⟩ e)) := by
  have hle : ∀ i, fr' i → lessF fr nb i := fun i hi => by obtain ⟨h1, h2⟩ := hfr i hi; exact ⟨h1, by omega⟩
  obtain ⟨cl', R2, X2⟩ := madeArr (w := drawW w d) (e := e) (c := ⟨vs ++ rest⟩) (deep := deep) (R.drew d) hid hk (RV_drew hV d) ⟨rest, rfl⟩ (hF.drew d) hd
  refine ⟨_, cl', R2.less hle, [], ?_, froz_nil⟩
  have hA := aref_made (w' := pushW (drawW w d) (.cells ⟨vs ++ rest⟩ e)) (st := st) (m := m) (fr := fr) (id := nb) (k := k) (b := w.heap.size) (cap := cap) (deep := deep) (t := false) (els := els) hcap (fun h => by cases h) (by
    have hs : (pushW (drawW w d) (.cells ⟨vs ++ rest⟩ e)).heap[w.heap.size]? = some (.cells ⟨vs ++ rest⟩ e) := pushW_new (drawW w d) _
    simp only [World.bsz, hs]
    simp only [List.size_toArray, List.length_append]
    rw [RV_length hV, flat_len hk, hrest, Nat.sub_mul]
    have := Nat.mul_le_mul_right k hcap
    omega)
  exact hA.goes (goes_fr hle _) (fun b hb => by cases hb)
theorem app_none (R : Rel w0 rs cs m cl fr st tmps w) (hfr : ∀ id, fr' id → fr id ∧ (id < nb ∨ nb + 64 ≤ id)) (hid : fr nb) {k : Nat} {deep t : Bool} {A : Option Addr} :
    Aft w0 rs cs fr' (st.upd (.ob nb (some (.arr k deep [])))) tmps (.aref nb t) (.slice A 0 0) w := by
  have hle : ∀ i, fr' i → lessF fr nb i := fun i hi => by obtain ⟨h1, h2⟩ := hfr i hi; exact ⟨h1, by omega⟩
  have R2 : Rel w0 rs cs (setM m nb none) (setC cl nb []) (lessF fr nb) (st.upd (.ob nb (some (.arr k deep [])))) tmps w :=
    R.made hid _ none (Chg.refl _ _) (fun b h => by cases h) (.inl ⟨rfl, by simp [St.mp, setM], rfl⟩) froz_nil (fun _ => ⟨by simp, by simp, by simp⟩)
  refine ⟨_, _, R2.less hle, [], ?_, froz_nil⟩
  simp only [AVR]
  refine ⟨⟨trivial, rfl⟩, fun h => (hle nb h).2 rfl, fun k' d' els' ho => ?_⟩
  simp only [St.mp, upd_ob_same] at ho
  cases ho
  exact ⟨A, 0, rfl, Nat.le_refl _, fun _ => rfl, .inl ⟨rfl, rfl⟩⟩
end
end Go.Den
end
section
namespace Go.Den
open Go
set_option linter.unusedSimpArgs false
set_option linter.unusedVariables false
section
variable {P : Program} {E : Env} {w0 w w' : World} {rs : List Nat} {cs : Cs} {m m' : Gm} {cl : Nat → List Nat} {fr fr' : Nat → Prop} {st : St} {tmps : Array Value}
variable {a : Act} {o : Oper} {nb : Nat} {v : AV} {us : List Upd}
variable (ET : ∀ t ti, E.tt t = some ti → ttOf P t = some ti)
def AppT (P : Program) (args : Array Nat) (e k eb : Nat) : Prop :=
  ∃ t1 t2 e2 k2 eb2 ie z, args[0]? = some t1 ∧ args[1]? = some t2 ∧ tkOf P t1 = some (.slice e k eb) ∧ tkOf P t2 = some (.slice e2 k2 eb2) ∧ P.info? e = some ie ∧ ie.zero = some z ∧ z.cells.size = k
def AppS (P : Program) (m : Gm) (cl : Nat → List Nat) (st : St) (w : World) (k : Nat) (x : Value) (r : List (List RD) × Bool × List Nat) (ns : List Value) (gs : List Nat) : Prop :=
  (∀ i ∈ r.2.2, st.ob i ≠ none) ∧ (∀ e ∈ r.1, e.length = k) ∧ r.2.2.Nodup ∧ (∃ A c, x = .slice A r.1.length c) ∧ RV w r.1.flatten ns gs ∧ FrozBut m st w r.2.2 gs ∧ (r.2.1 = true → Claims m cl st r.2.2 gs) ∧
    (∀ d, (Builtin.firstCells k r.1.length x).run P (drawW w d) = .ok ⟨ns⟩ (drawW w d))
theorem app_own (R : Rel w0 rs cs m cl fr st tmps w) (hfr : ∀ id, fr' id → fr id ∧ (id < nb ∨ nb + 64 ≤ id)) (hid : fr nb) {args : Array Nat} {e k eb ty : Nat} (hT : AppT P args e k eb)
    {r : List (List RD) × Bool × List Nat} {x u : Value} {ns : List Value} {gs : List Nat} (hS : AppS P m cl st w k x r ns gs) {vals : Array Value} (hv0 : vals[0]? = some u) (hv1 : vals[1]? = some x)
    {id n : Nat} {deep t : Bool} {ys : List (List RD)} (hb : st.ob id = some (.arr k deep ys)) (hp : st.pm id = false) (hn : n ≤ ys.length) (hV : SlV m w id k 0 n t u) (hnd : nodupB (id :: r.2.2) = true)
    (hbig : 2 * (n + r.1.length) * eb ≤ 140737488355328 ∧ n + r.1.length ≤ 4611686018427387904) :
    ∃ y w', (Builtin.append_ args ty vals).run P w = .ok y w' ∧ Aft w0 rs cs fr' (st.upds (sealU r.2.2 ++ [.ob id none, .ob nb (some (.arr k (r.2.1 && deep) (ys.take n ++ r.1)))])) tmps (.aref nb false) y w' := by
  obtain ⟨t1, t2, e2, k2, eb2, ie, z, ha0, ha1, htk, htk2, hi, hz, hk⟩ := hT
  obtain ⟨hl, hkx, hsn, ⟨B, q, rfl⟩, hVn, hFB, hCl, hs⟩ := hS
  obtain ⟨A, c, os, g, rfl, hnc, hVo, hlo, hky, hFo, hcl, ho, hblk⟩ := own_pre (P := P) R hb hn hV
  have hnd' := nodupB_spec hnd
  have hid2 : id ∉ r.2.2 := (List.nodup_cons.1 hnd').1
  have hnfr : ∀ i ∈ r.2.2, ¬ fr i := fun i hi => not_fr R (hl i hi)
  have R1 := R.sealedAll hnfr
  have hb1 : (st.upds (sealU r.2.2)).ob id = some (.arr k deep ys) := by rw [seals_ob]; exact hb
  have hp1 : (st.upds (sealU r.2.2)).pm id = false := seals_pm.2 ⟨hp, hid2⟩
  have hlen : (ys.take n ++ r.1).length = n + r.1.length := by rw [List.length_append, List.length_take_of_le hn]
  have hkk : ∀ x ∈ ys.take n ++ r.1, x.length = k := fun x hx => (List.mem_append.1 hx).elim (hky x) (hkx x)
  have hVV : RV w (ys.take n ++ r.1).flatten (os ++ ns) (g ++ gs) := by
    rw [List.flatten_append, RV_append]; exact ⟨os, ns, g, gs, hVo, hVn, rfl, rfl⟩
  have hFo1 : Froz m (st.upds (sealU r.2.2)) w g := (ext_seals R hnfr).froz hFo
  have hFF : Froz m (st.upds (sealU r.2.2)) w (g ++ gs) := fun b hb => (List.mem_append.1 hb).elim (hFo1 b) (froz_seals hFB b)
  have hln := RV_length hVn
  rw [flat_len hkx] at hln
  have hD : (r.2.1 && deep) = true → (g ++ gs).Nodup ∧ (∀ b ∈ g ++ gs, b ∈ rs ∨ b ∈ cs ∨ w0.heap.size ≤ b) ∧ ∀ i o', i ≠ id → (st.upds (sealU r.2.2)).ob i = some o' → deepO o' = true → (st.upds (sealU r.2.2)).pm i = false → ∀ b ∈ g ++ gs, b ∉ cl i := by
    intro hd
    simp only [Bool.and_eq_true] at hd
    exact join_claims R hb hp hd.2 (hcl hd.2 hp) (hCl hd.1) hid2
  rw [upds_append]
  have hup : ∀ st2 : St, st2.upds [.ob id none, .ob nb (some (.arr k (r.2.1 && deep) (ys.take n ++ r.1)))] = (st2.upd (.ob id none)).upd (.ob nb (some (.arr k (r.2.1 && deep) (ys.take n ++ r.1)))) := fun _ => rfl
  rw [hup]
  rcases run_append (args := args) (ty := ty) (vals := vals) htk htk2 hi hz hk ha0 ha1 hv0 hv1 ho hs hbig.1 hbig.2 with ⟨hle, hrun⟩ | ⟨hlt, cap, rest, hcap, hrest, hrun⟩
  · rcases hblk with ⟨rfl, rfl⟩ | ⟨b, cc, e', rest, rfl, hm, hw, hsz, hcc⟩
    · have hx0 : r.1 = [] := List.eq_nil_of_length_eq_zero (by omega)
      have hns : ns = [] := by
        rw [hx0] at hln; simpa using hln
      refine ⟨_, w, hrun w ?_, ?_⟩
      · cases A with
        | none => rfl
        | some a => simp only; rw [hns]; rfl
      · rw [hx0]
        simp only [List.take_zero, List.append_nil, List.length_nil, Nat.add_zero]
        exact app_none (R1.killed id) hfr hid
    · have hck : n * k + ns.length ≤ cc.size := by
        have := Nat.mul_le_mul_right k hle
        rw [Nat.add_mul] at this
        omega
      have hst : (storeCells ((⟨b, 0, none⟩ : Addr).add (n * k)) ns).run P w = .ok () (w.setRow b ⟨splice cc.toList (n * k) ns⟩) := by
        rw [add_none]
        have := run_storeCells (P := P) ns (0 + n * k) 0 cc w hw (by omega) (RV_one hVn)
        simpa using this
      have hspl : splice cc.toList (n * k) ns = (os ++ ns) ++ rest.drop ns.length := by
        unfold splice
        rw [hcc, ← hlo, List.take_left, List.drop_append]
        simp
      obtain ⟨cl', R2⟩ := movedArr R1 (id' := nb) (deep' := r.2.1 && deep) (els' := ys.take n ++ r.1) (c' := ⟨splice cc.toList (n * k) ns⟩) hb1 hp1 hid hm hw
        (by have := splice_length (xs := cc.toList) (ds := ns) (j := n * k) (by simpa using hck); simpa using this) hkk hVV ⟨rest.drop ns.length, hspl⟩ hFF hD
      have hlef : ∀ i, fr' i → lessF fr nb i := fun i hi => by obtain ⟨h1, h2⟩ := hfr i hi; exact ⟨h1, by omega⟩
      refine ⟨_, _, hrun _ hst, ⟨_, cl', R2.less hlef, [], ?_, froz_nil⟩⟩
      have hA := aref_made (w' := w.setRow b ⟨splice cc.toList (n * k) ns⟩) (st := (st.upds (sealU r.2.2)).upd (.ob id none)) (m := m) (fr := fr) (id := nb) (k := k) (b := b) (cap := c) (deep := r.2.1 && deep) (t := false) (els := ys.take n ++ r.1) (by omega) (fun h => by cases h) (by
        rw [bsz_setRow hw (by have := splice_length (xs := cc.toList) (ds := ns) (j := n * k) (by simpa using hck); simpa using this)]
        simpa [World.bsz, hw] using hsz)
      rw [hlen] at hA
      exact hA.goes (goes_fr hlef _) (fun b hb => by cases hb)
  · refine ⟨_, _, hrun, ?_⟩
    have R2 := R1.killed id
    have hN := app_new (nb := nb) (fr' := fr') (e := e) (k := k) (d := w.drawn + 1) (cap := cap) (deep := r.2.1 && deep) (els := ys.take n ++ r.1) (rest := rest) R2 hfr hid hkk hVV ((ext_kill R1 id).froz hFF) (by omega) (by rw [hlen]; exact hrest) (fun hd => by
      obtain ⟨d1, d2, d3⟩ := hD hd
      refine ⟨d1, d2, fun i o' ho' => ?_⟩
      have hne : i ≠ id := by intro e; subst e; rw [upd_ob_same] at ho'; cases ho'
      rw [upd_ob_other _ _ hne] at ho'
      exact d3 i o' hne ho')
    rw [hlen] at hN
    simpa only [List.append_assoc] using hN
theorem app_ro (R : Rel w0 rs cs m cl fr st tmps w) (hfr : ∀ id, fr' id → fr id ∧ (id < nb ∨ nb + 64 ≤ id)) (hid : fr nb) {args : Array Nat} {e k eb ty : Nat} (hT : AppT P args e k eb)
    {r : List (List RD) × Bool × List Nat} {x u : Value} {ns : List Value} {gs : List Nat} (hS : AppS P m cl st w k x r ns gs) {vals : Array Value} (hv0 : vals[0]? = some u) (hv1 : vals[1]? = some x)
    {A : Option Addr} {b : Bool} {ys : List (List RD)} {os : List Value} {g : List Nat} (hu : u = .slice A ys.length ys.length) (hV : RV w ys.flatten os g) (hky : ∀ x ∈ ys, x.length = k) (hF : Froz m st w g) (hg : b = true → g = [])
    (ho : ∀ d, (Builtin.firstCells k ys.length u).run P (drawW w d) = .ok ⟨os⟩ (drawW w d)) (h0 : r.1.length = 0 → ys = [])
    (hbig : 2 * (ys.length + r.1.length) * eb ≤ 140737488355328 ∧ ys.length + r.1.length ≤ 4611686018427387904) :
    ∃ y w', (Builtin.append_ args ty vals).run P w = .ok y w' ∧ Aft w0 rs cs fr' (st.upds (sealU r.2.2 ++ [.ob nb (some (.arr k (r.2.1 && b) (ys ++ r.1)))])) tmps (.aref nb false) y w' := by
  obtain ⟨t1, t2, e2, k2, eb2, ie, z, ha0, ha1, htk, htk2, hi, hz, hk⟩ := hT
  obtain ⟨hl, hkx, hsn, ⟨B, q, rfl⟩, hVn, hFB, hCl, hs⟩ := hS
  subst hu
  have hnfr : ∀ i ∈ r.2.2, ¬ fr i := fun i hi => not_fr R (hl i hi)
  have R1 := R.sealedAll hnfr
  have hlen : (ys ++ r.1).length = ys.length + r.1.length := by simp
  have hkk : ∀ x ∈ ys ++ r.1, x.length = k := fun x hx => (List.mem_append.1 hx).elim (hky x) (hkx x)
  have hVV : RV w (ys ++ r.1).flatten (os ++ ns) (g ++ gs) := by
    rw [List.flatten_append, RV_append]; exact ⟨os, ns, g, gs, hV, hVn, rfl, rfl⟩
  have hFo1 : Froz m (st.upds (sealU r.2.2)) w g := (ext_seals R hnfr).froz hF
  have hFF : Froz m (st.upds (sealU r.2.2)) w (g ++ gs) := fun b hb => (List.mem_append.1 hb).elim (hFo1 b) (froz_seals hFB b)
  rw [upds_append]
  have hup : ∀ st2 : St, st2.upds [.ob nb (some (.arr k (r.2.1 && b) (ys ++ r.1)))] = st2.upd (.ob nb (some (.arr k (r.2.1 && b) (ys ++ r.1)))) := fun _ => rfl
  rw [hup]
  rcases run_append (args := args) (ty := ty) (vals := vals) htk htk2 hi hz hk ha0 ha1 hv0 hv1 ho hs hbig.1 hbig.2 with ⟨hle, hrun⟩ | ⟨hlt, cap, rest, hcap, hrest, hrun⟩
  · have hx0 : r.1 = [] := List.eq_nil_of_length_eq_zero (by omega)
    have hy0 := h0 (by omega)
    subst hy0
    have hns : ns = [] := by
      have := RV_length hVn
      rw [hx0] at this; simpa using this
    refine ⟨_, w, hrun w ?_, ?_⟩
    · cases A with
      | none => rfl
      | some a => simp only; rw [hns]; rfl
    · rw [hx0]
      simp only [List.append_nil, List.length_nil, Nat.add_zero]
      exact app_none R1 hfr hid
  · refine ⟨_, _, hrun, ?_⟩
    have hN := app_new (nb := nb) (fr' := fr') (e := e) (k := k) (d := w.drawn + 1) (cap := cap) (deep := r.2.1 && b) (els := ys ++ r.1) (rest := rest) R1 hfr hid hkk hVV hFF (by omega) (by rw [hlen]; exact hrest) (fun hd => by
      simp only [Bool.and_eq_true] at hd
      rw [hg hd.2]
      exact claims_new R (hCl hd.1))
    rw [hlen] at hN
    simpa only [List.append_assoc] using hN
theorem getD_map {c : Array Operand} {i : Nat} {f : Operand → Value} {d : Operand} (h : i < c.size) : (c.map f)[i]? = some (f (c.getD i d)) := by
  simp [h, Array.getD]
include ET in
theorem ok_append (R : Rel w0 rs cs m cl fr st a.tmps w) (hfr : ∀ id, fr' id → fr id ∧ (id < nb ∨ nb + 64 ≤ id)) (hnb : ∀ id, nb ≤ id → id < nb + 64 → fr id) {c : Call} (ho : o.op = .call c) (hc : c.callee = .builtin .append)
    (h : Ans E st (stepOp E nb o) (v, us)) : Did P o a.eval w (Aft w0 rs cs fr' (st.upds us) a.tmps v) := by
  simp only [stepOp, ho, hc] at h
  simp only [ans_bind, ans_need, ans_tt, Bool.and_eq_true] at h
  obtain ⟨_, ⟨hs2, ht2⟩, ti, htt, t2, htt2, d, hd, s, hsrc, h⟩ := h
  have hs2 := Nat.eq_of_beq_eq_true hs2
  have ht2 := Nat.eq_of_beq_eq_true ht2
  have hid : fr nb := hnb nb (by omega) (by omega)
  split at h
  · rename_i e k eb e' k' eb' hk1 hk2
    simp only [ans_bind, ans_need, ans_tt] at h
    obtain ⟨_, hee, ei, hei, _, hzk, r, hr, h⟩ := h
    obtain ⟨_, _, _, _, _, _, _, _, _, _, htk, _⟩ := (tok_of (ET _ ti htt)).info
    obtain ⟨_, _, _, _, _, _, _, _, _, _, htk2, _⟩ := (tok_of (ET _ t2 htt2)).info
    rw [hk1] at htk
    rw [hk2] at htk2
    obtain ⟨ie, z, _, hie, _, _, hz, hzc, _, _, _, _⟩ := (tok_of (ET e ei hei)).info
    have hT : AppT P c.argTypes e k eb := ⟨_, _, e', k', eb', ie, z, by simp [Array.getD, ht2]; rfl, by simp [Array.getD, ht2]; rfl, by simpa [Array.getD, ht2] using htk, by simpa [Array.getD, ht2] using htk2, hie, hz, by rw [← Array.length_toList, hzc]; exact Nat.eq_of_beq_eq_true hzk⟩
    obtain ⟨fd, hd1, hd2⟩ := opd_ok R hd
    obtain ⟨fx, hx1, hx2⟩ := opd_ok R hsrc
    obtain ⟨l1, l2, l3, A, q, ns, gs, l4, l5, l6, l7, l8, l9⟩ := lstOf_ok (P := P) R hx1 hx2 hr
    have hS : AppS P m cl st w k (a.eval (c.args.getD 1 (.global 0))) r ns gs := ⟨l1, l2, l3, ⟨A, q, l4⟩, l6, l7, l8, l9⟩
    have hv0 : (c.args.map a.eval)[0]? = some (a.eval (c.args.getD 0 (.global 0))) := getD_map (by omega)
    have hv1 : (c.args.map a.eval)[1]? = some (a.eval (c.args.getD 1 (.global 0))) := getD_map (by omega)
    have fin : (∃ y w', (Builtin.append_ c.argTypes o.type (c.args.map a.eval)).run P w = .ok y w' ∧ Aft w0 rs cs fr' (st.upds us) a.tmps v y w') → Did P o a.eval w (Aft w0 rs cs fr' (st.upds us) a.tmps v) := by
      rintro ⟨y, w', h1, h2⟩
      refine did_val (u := y) (w' := w') ?_ h2
      simp only [execOp, ho, resolve, hc, invoke, builtin, run_bind, run_pure, h1]
    refine fin ?_
    split at h
    · simp only [ans_bind, ans_need, ans_ret, Prod.mk.injEq, decide_eq_true_eq] at h
      obtain ⟨_, hbig, rfl, rfl⟩ := h
      simp only [AVR] at hd1
      have := app_ro (fr' := fr') (nb := nb) (ty := o.type) R hfr hid hT hS hv0 hv1 (A := none) (b := true) (ys := []) (os := []) (g := []) (by simpa using hd1.1) (by simp [RV]) (by simp) froz_nil (fun _ => rfl) (fun d => by rw [hd1.1]; simp [Builtin.firstCells, run_pure]) (fun _ => rfl) (by simpa using hbig)
      simpa using this
    · rename_i ys
      simp only [ans_bind, ans_need, ans_ret, Prod.mk.injEq, decide_eq_true_eq, Bool.and_eq_true] at h
      obtain ⟨_, ⟨⟨hlit, hky⟩, hp, hbig⟩, rfl, rfl⟩ := h
      have hky' : ∀ e ∈ ys, e.length = k := fun e he => Nat.eq_of_beq_eq_true (List.all_eq_true.1 hky e he)
      simp only [AVR] at hd1
      obtain ⟨A', c', os, g, e1, e2, e3, e4, e5, e6, e7, e8⟩ := read_RR (P := P) hd1 hky'
      have e3 := e3 rfl
      subst e3
      exact app_ro (fr' := fr') (nb := nb) (ty := o.type) R hfr hid hT hS hv0 hv1 (b := ei.zero.all scal) e1 e4 hky' (hd2.sub e5) (fun hl => allLit_fs e4 (by rw [hl] at hlit; exact hlit)) e8 (fun h => by omega) hbig
    · rename_i id t
      simp only [ans_ob] at h
      split at h
      · rename_i k2 deep ys hb
        simp only [ans_pm, ans_bind, ans_need, ans_ret, Prod.mk.injEq, decide_eq_true_eq, Bool.and_eq_true, Bool.not_eq_true'] at h
        obtain ⟨_, ⟨⟨⟨hp, hk⟩, hnd⟩, hbig⟩, rfl, rfl⟩ := h
        have hk := Nat.eq_of_beq_eq_true hk
        subst hk
        have := app_own (fr' := fr') (nb := nb) (ty := o.type) R hfr hid hT hS hv0 hv1 hb hp (Nat.le_refl _) (hd1.2.2 _ _ _ hb) hnd hbig
        rwa [List.take_length] at this
      · exact h.elim
    · rename_i id n t
      simp only [ans_ob] at h
      split at h
      · rename_i k2 deep ys hb
        simp only [ans_pm, ans_bind, ans_need, ans_ret, Prod.mk.injEq, decide_eq_true_eq, Bool.and_eq_true, Bool.not_eq_true'] at h
        obtain ⟨_, ⟨⟨⟨hp, hk⟩, hnd⟩, hbig⟩, rfl, rfl⟩ := h
        have hk := Nat.eq_of_beq_eq_true hk
        subst hk
        obtain ⟨h1, h2⟩ := hd1.2.2 _ _ _ hb
        exact app_own (fr' := fr') (nb := nb) (ty := o.type) R hfr hid hT hS hv0 hv1 hb hp (by omega) h2 hnd hbig
      · exact h.elim
    · exact h.elim
  · exact h.elim
end
end Go.Den
end
section
namespace Go.Den
open Go
set_option linter.unusedSimpArgs false
set_option linter.unusedVariables false
section
variable {P : Program} {E : Env} {w0 w w' : World} {rs : List Nat} {cs : Cs} {m m' : Gm} {cl : Nat → List Nat} {fr fr' : Nat → Prop} {st : St} {tmps : Array Value}
variable {a : Act} {o : Oper} {nb : Nat} {v : AV} {us : List Upd}
variable (ET : ∀ t ti, E.tt t = some ti → ttOf P t = some ti)
theorem bytes_RE {b : Nat} (s : List UInt8) : ∀ (i : Nat), (∀ j (h : j < s.length), w.cell? ⟨b, i + j, none⟩ = some (.int .u8 s[j].toNat)) → RE w b i 1 (s.map fun b => [RD.lit (.int .u8 b.toNat)]) [] := by
  induction s with
  | nil => intro i _; simp [RE]
  | cons x s ih =>
    intro i h
    simp only [List.map_cons, RE]
    refine ⟨[], [], rfl, ?_, ih (i + 1) (fun j hj => ?_), rfl⟩
    · simp only [RL, RR]
      exact ⟨_, [], [], by have := h 0 (by simp); simpa using this, ⟨rfl, rfl, rfl⟩, rfl, rfl⟩
    · have := h (j + 1) (by simpa using hj)
      simpa [Nat.add_assoc, Nat.add_comm 1] using this
theorem bytesOf_vals : ∀ {els : List (List RD)} {vs : List Value} {gs : List Nat} {b : List UInt8}, RV w els.flatten vs gs → bytesOf els = some b →
    ∃ ns : List Int, vs = ns.map (Value.int .u8) ∧ b = ns.map fun n => UInt8.ofNat n.toNat
  | [], vs, gs, b, h, hb => by
    simp only [bytesOf, Option.some.injEq] at hb
    subst hb
    simp only [List.flatten_nil, RV] at h
    exact ⟨[], by simp [h.1], rfl⟩
  | e :: r, vs, gs, b, h, hb => by
    unfold bytesOf at hb
    split at hb
    · rename_i h0; cases h0
    · rename_i n r' h0
      cases h0
      split at hb
      · rename_i b' hb'
        cases hb
        simp only [List.flatten_cons, List.cons_append, List.nil_append, RV, RR] at h
        obtain ⟨v, us, f, g, rfl, ⟨rfl, _⟩, h3, _⟩ := h
        obtain ⟨ns, h1, h2⟩ := bytesOf_vals h3 hb'
        exact ⟨n :: ns, by simp [h1], by simp [h2]⟩
      · cases hb
    · cases hb
theorem foldl_bytes : ∀ (ns : List Int) (r : ByteArray), ns.foldl (fun r n => r.push (UInt8.ofNat n.toNat)) r = ⟨r.data ++ (ns.map fun n => UInt8.ofNat n.toNat).toArray⟩
  | [], r => by simp
  | n :: ns, r => by
    rw [List.foldl_cons, foldl_bytes ns]
    congr 1
    apply Array.ext'
    simp [ByteArray.push]
include ET in
theorem ok_convert (R : Rel w0 rs cs m cl fr st a.tmps w) (hfr : ∀ id, fr' id → fr id) {src dst : Nat} {x : Operand} (ho : o.op = .convert src dst x)
    (h : Ans E st (stepOp E nb o) (v, us)) : Did P o a.eval w (Aft w0 rs cs fr' (st.upds us) a.tmps v) := by
  simp only [stepOp, ho] at h
  rw [ans_bind] at h
  obtain ⟨ti, ht, h⟩ := h
  rw [ans_bind] at h
  obtain ⟨si, hs, h⟩ := h
  rw [ans_bind] at h
  obtain ⟨q, hq, h⟩ := h
  rw [ans_tt] at ht hs
  obtain ⟨_, _, _, _, _, _, _, _, ht2, _, htk, _⟩ := (tok_of (ET dst ti ht)).info
  obtain ⟨_, _, _, _, _, _, _, _, hs2, _, hsk, _⟩ := (tok_of (ET src si hs)).info
  obtain ⟨fs, h1, h2⟩ := opd_ok R hq
  split at h
  · rename_i k0 k k1 n e1 e2
    simp only [ans_ret, Prod.mk.injEq] at h
    obtain ⟨rfl, rfl⟩ := h
    obtain ⟨hx, _, _⟩ := avr_lit h1
    rw [e1] at hsk; rw [e2] at htk
    refine did_val (u := _) (w' := w) ?_ (aft_pure R hfr (avr_lit_mk _ rfl) froz_nil)
    simp [execOp, ho, hx, convert, run_bind, run_underlying (tk_int hsk), run_underlying (tk_int htk), Conv.intToInt, run_pure]
  · rename_i s e1 e2
    simp only [ans_ret, Prod.mk.injEq] at h
    obtain ⟨rfl, rfl⟩ := h
    obtain ⟨hx, _, _⟩ := avr_lit h1
    rw [e1] at hsk; rw [e2] at htk
    refine did_val (u := _) (w' := w) ?_ (aft_pure R hfr (avr_lit_mk _ rfl) froz_nil)
    simp [execOp, ho, hx, convert, run_bind, run_underlying (tk_str hsk), run_underlying (tk_str htk), run_pure]
  · rename_i e k eb s e1 e2
    simp only [ans_bind, ans_tt] at h
    obtain ⟨ei, hei, h⟩ := h
    obtain ⟨_, _, _, _, _, _, _, _, _, _, hek, _⟩ := (tok_of (ET e ei hei)).info
    split at h
    · rename_i hu8
      simp only [ans_ret, Prod.mk.injEq] at h
      obtain ⟨rfl, rfl⟩ := h
      obtain ⟨hx, _, _⟩ := avr_lit h1
      rw [e1] at hsk; rw [e2] at htk; rw [hu8] at hek
      have hcap : s.size ≤ grownCap w s.size 0 e := by unfold grownCap Question.cut; exact Nat.le_add_right _ _
      have hC : Chg (fun _ => False) w (Lib.bytesWorld w e s) := ⟨rfl, rfl, rfl, by rw [Lib.bytesWorld_size]; omega, fun b hb _ => Lib.bytesWorld_at_old w e s b hb⟩
      have hlen : (s.data.toList.map fun b => [RD.lit (.int .u8 b.toNat)]).length = s.size := by rw [List.length_map, Array.length_toList]; rfl
      refine did_val (u := .slice (some ⟨w.heap.size, 0, none⟩) s.size (grownCap w s.size 0 e)) (w' := Lib.bytesWorld w e s) ?_ ⟨m, cl, (R.drawn hC).less hfr, ?_⟩
      · have := Lib.run_convert_string_bytes w src dst e s (tk_str hsk) (tk_slice htk).1 (tk_int hek)
        simp [execOp, ho, hx, run_bind, this, run_pure]
      · by_cases h0 : s.data.toList = []
        · refine ⟨[], ?_, froz_nil⟩
          simp only [AVR, RR]
          exact ⟨_, _, by rw [hlen], by rw [hlen]; exact hcap, fun h => by simp at h, .inl ⟨by simp [h0], trivial⟩⟩
        · refine ⟨[w.heap.size], ?_, ?_⟩
          · simp only [AVR, RR]
            refine ⟨_, _, by rw [hlen], by rw [hlen]; exact hcap, fun h => by simp at h, .inr ⟨w.heap.size, 0, 1, [], rfl, by simpa using h0, rfl, bytes_RE _ 0 (fun j hj => ?_)⟩⟩
            have := Lib.bytesWorld_cell w e s j (by rw [Array.length_toList] at hj; exact hj)
            rw [Nat.zero_add, this]
            have hj' : j < s.data.size := by rw [Array.length_toList] at hj; exact hj
            have hg : s.data.toList.getD j 0 = s.data.toList[j] := by rw [List.getD_eq_getElem?_getD, List.getElem?_eq_getElem hj]; rfl
            rw [hg]
          · intro b hb
            simp only [List.mem_singleton] at hb
            subst hb
            refine ⟨⟨by rw [Lib.bytesWorld_size]; omega, R.good_new (Nat.le_refl _)⟩, fun id hl hp hm => ?_⟩
            have := (R.mine id _ hl hm).1
            omega
    · exact h.elim
  · rename_i e k eb e1 e2
    simp only [ans_bind, ans_tt] at h
    obtain ⟨ei, hei, h⟩ := h
    obtain ⟨_, _, _, _, _, _, _, _, _, _, hek, _⟩ := (tok_of (ET e ei hei)).info
    split at h
    · rename_i hu8
      simp only [ans_bind] at h
      obtain ⟨r, hr, h⟩ := h
      split at h
      · rename_i b hb
        simp only [ans_ret, Prod.mk.injEq] at h
        obtain ⟨rfl, rfl⟩ := h
        rw [e1] at hsk; rw [e2] at htk; rw [hu8] at hek
        obtain ⟨l1, l2, l3, A, q', ns, gs, l4, l5, l6, l7, l8, l9⟩ := lstOf_ok (P := P) R h1 h2 hr
        obtain ⟨is, rfl, rfl⟩ := bytesOf_vals l6 hb
        have l9 := l9 w.drawn
        have hw0 : drawW w w.drawn = w := rfl
        rw [hw0, l4] at l9
        refine did_val (u := .string ⟨(is.map fun n => UInt8.ofNat n.toNat).toArray⟩) (w' := w) ?_ (aft_pure R hfr (avr_lit_mk _ rfl) froz_nil)
        have hcv := run_convert_bytes_string (P := P) w src dst e A r.1.length q' (tk_slice hsk).1 (tk_int hek) (tk_str htk)
        simp only [execOp, ho, run_bind, l4, hcv]
        cases A with
        | none =>
          simp only [Builtin.firstCells, run_pure, Result.ok.injEq] at l9
          have h0 : is = [] := by
            have := congrArg Array.toList l9.1
            simpa using this.symm
          subst h0
          simp [Conv.bytesToString, run_pure]
          rfl
        | some ad =>
          simp only [Builtin.firstCells, Nat.mul_one] at l9
          rw [run_bytesToString w ad r.1.length q' is (by simpa using l9), foldl_bytes]
          simp only [run_pure]
          congr 3
          simp
      · exact h.elim
    · exact h.elim
  · exact h.elim
end
end Go.Den
end
section
namespace Go.Den
open Go
set_option linter.unusedSimpArgs false
set_option linter.unusedVariables false
def DC (w : World) : DV → Value → List Nat → List Nat → List Nat → Prop
  | .ro d, v, rs, cs, fs => rs = [] ∧ cs = [] ∧ RR w d v fs
  | .own k t els, v, rs, cs, fs => fs = [] ∧ ∃ A c, v = .slice A els.length c ∧ els.length ≤ c ∧ (t = true → c = els.length) ∧
      ((els = [] ∧ c = 0 ∧ rs = [] ∧ cs = []) ∨ ∃ b a e, A = some ⟨b, 0, none⟩ ∧ rs = [b] ∧ w.heap[b]? = some (.cells a e (0, 0)) ∧ c * k ≤ a.size ∧ RE w b 0 k els cs)
  | .shal k t els, v, rs, cs, fs => cs = [] ∧ ∃ A c, v = .slice A els.length c ∧ els.length ≤ c ∧ (t = true → c = els.length) ∧
      ((els = [] ∧ c = 0 ∧ rs = [] ∧ fs = []) ∨ ∃ b a e, A = some ⟨b, 0, none⟩ ∧ rs = [b] ∧ w.heap[b]? = some (.cells a e (0, 0)) ∧ c * k ≤ a.size ∧ RE w b 0 k els fs)
  | _, _, _, _, _ => False
def DCs (w : World) : List DV → List Value → List Nat → List Nat → List Nat → Prop
  | [], vs, rs, cs, fs => vs = [] ∧ rs = [] ∧ cs = [] ∧ fs = []
  | d :: ds, vs, rs, cs, fs => ∃ v us r1 r2 c1 c2 f1 f2, vs = v :: us ∧ DC w d v r1 c1 f1 ∧ DCs w ds us r2 c2 f2 ∧ rs = r1 ++ r2 ∧ cs = c1 ++ c2 ∧ fs = f1 ++ f2
def D1 (w : World) : DV → Value → List Nat → List Nat → List Nat → Prop
  | .mut cells, v, rs, cs, fs => ∃ b a e r, v = .pointer (some ⟨b, 0, none⟩) ∧ w.heap[b]? = some (.cells ⟨a⟩ e (0, 0)) ∧ rs = b :: r ∧ DCs w cells a r cs fs
  | .agg xs, v, rs, cs, fs => ∃ vs, v = .agg ⟨vs⟩ ∧ DCs w xs vs rs cs fs
  | .tup _, _, _, _, _ => False
  | .ro d, v, rs, cs, fs => DC w (.ro d) v rs cs fs
  | .own k t els, v, rs, cs, fs => DC w (.own k t els) v rs cs fs
  | .shal k t els, v, rs, cs, fs => DC w (.shal k t els) v rs cs fs
def Ds (w : World) : List DV → List Value → List Nat → List Nat → List Nat → Prop
  | [], vs, rs, cs, fs => vs = [] ∧ rs = [] ∧ cs = [] ∧ fs = []
  | d :: ds, vs, rs, cs, fs => ∃ v us r1 r2 c1 c2 f1 f2, vs = v :: us ∧ D1 w d v r1 c1 f1 ∧ Ds w ds us r2 c2 f2 ∧ rs = r1 ++ r2 ∧ cs = c1 ++ c2 ∧ fs = f1 ++ f2
def DR (w : World) : DV → Value → List Nat → List Nat → List Nat → Prop
  | .tup xs, v, rs, cs, fs => ∃ vs, v = .tuple ⟨vs⟩ ∧ Ds w xs vs rs cs fs
  | d, v, rs, cs, fs => D1 w d v rs cs fs
structure Ent where
  id : Nat
  o : AObj
  bk : Option Nat
  fs : List Nat
def Ent.cl (e : Ent) : List Nat := bif deepO e.o then e.fs else []
def Ent.up (e : Ent) : Upd := .ob e.id (some e.o)
def Has (M : Mp) (es : List Ent) : Prop := ∀ e ∈ es, M.ob e.id = some e.o ∧ M.m e.id = e.bk ∧ ¬ M.fr e.id
structure Imp (w : World) (lo c c' : Nat) (us : List Upd) (es : List Ent) (rs cs fs : List Nat) : Prop where
  hus : us = es.map Ent.up
  hc : c' = c + es.length
  hids : es.map Ent.id = List.range' (lo + c) es.length
  hrs : es.filterMap Ent.bk = rs
  hcs : es.flatMap Ent.cl = cs
  hob : ∀ M : Mp, Has M es → ∀ e ∈ es, OBR M w e.id e.o e.fs ∧ (deepO e.o = false → ∀ b ∈ e.fs, b ∈ fs)
variable {w : World} {nb : Nat}
theorem Has.left {M : Mp} {a b : List Ent} (h : Has M (a ++ b)) : Has M a := fun e he => h e (by simp [he])
theorem Has.right {M : Mp} {a b : List Ent} (h : Has M (a ++ b)) : Has M b := fun e he => h e (by simp [he])
theorem Imp.nil (lo c : Nat) : Imp w lo c c [] [] [] [] [] := ⟨rfl, rfl, rfl, rfl, rfl, fun _ _ e he => by cases he⟩
theorem Imp.fs_mono {lo c c' : Nat} {us : List Upd} {es : List Ent} {rs cs fs gs : List Nat} (h : Imp w lo c c' us es rs cs fs) (hs : ∀ b ∈ fs, b ∈ gs) : Imp w lo c c' us es rs cs gs :=
  ⟨h.hus, h.hc, h.hids, h.hrs, h.hcs, fun M hM e he => ⟨(h.hob M hM e he).1, fun hd b hb => hs b ((h.hob M hM e he).2 hd b hb)⟩⟩
theorem Imp.append {lo c c' c'' : Nat} {us us' : List Upd} {es es' : List Ent} {rs cs fs rs' cs' fs' : List Nat} (h : Imp w lo c c' us es rs cs fs) (h' : Imp w lo c' c'' us' es' rs' cs' fs') :
    Imp w lo c c'' (us ++ us') (es ++ es') (rs ++ rs') (cs ++ cs') (fs ++ fs') where
  hus := by rw [h.hus, h'.hus, List.map_append]
  hc := by rw [h'.hc, h.hc, List.length_append]; omega
  hids := by
    rw [List.map_append, h.hids, h'.hids, h.hc, List.length_append, ← Nat.add_assoc, List.range'_append_1]
  hrs := by rw [List.filterMap_append, h.hrs, h'.hrs]
  hcs := by rw [List.flatMap_append, h.hcs, h'.hcs]
  hob M hM e he := by
    rcases List.mem_append.1 he with he | he
    · obtain ⟨h1, h2⟩ := h.hob M hM.left e he
      exact ⟨h1, fun hd b hb => List.mem_append_left _ (h2 hd b hb)⟩
    · obtain ⟨h1, h2⟩ := h'.hob M hM.right e he
      exact ⟨h1, fun hd b hb => List.mem_append_right _ (h2 hd b hb)⟩
theorem imp_own {k : Nat} {t : Bool} {els : List (List RD)} {v : Value} {rs cs fs : List Nat} (c : Nat) (h : DC w (.own k t els) v rs cs fs) :
    ∃ es, Imp w nb c (c + 1) [.ob (nb + c) (some (.arr k true els))] es rs cs [] ∧ fs = [] ∧ ∀ M : Mp, Has M es → AVR M w (.aref (nb + c) t) v [] := by
  simp only [DC] at h
  obtain ⟨rfl, A, q, rfl, h2, h3, h4⟩ := h
  rcases h4 with ⟨rfl, rfl, rfl, rfl⟩ | ⟨b, a, e, rfl, rfl, hw, hle, hE⟩
  · refine ⟨[⟨nb + c, .arr k true [], none, []⟩], ⟨rfl, rfl, rfl, rfl, rfl, fun M hM e he => ?_⟩, rfl, fun M hM => ?_⟩
    · simp only [List.mem_singleton] at he
      subst he
      refine ⟨.inl ⟨rfl, (hM _ (by simp)).2.1, rfl⟩, fun h => by cases h⟩
    · obtain ⟨m1, m2, m3⟩ := hM _ (List.mem_singleton.2 rfl)
      simp only [AVR]
      refine ⟨⟨trivial, rfl⟩, m3, fun k' d' els' ho => ?_⟩
      rw [m1] at ho
      cases ho
      exact ⟨A, 0, rfl, Nat.le_refl _, fun _ => rfl, .inl ⟨rfl, rfl⟩⟩
  · refine ⟨[⟨nb + c, .arr k true els, some b, cs⟩], ⟨rfl, rfl, rfl, rfl, by simp [Ent.cl, deepO], fun M hM x hx => ?_⟩, rfl, fun M hM => ?_⟩
    · simp only [List.mem_singleton] at hx
      subst hx
      obtain ⟨m1, m2, m3⟩ := hM _ (List.mem_singleton.2 rfl)
      refine ⟨.inr ⟨b, a, e, m2, hw, Nat.le_trans (Nat.mul_le_mul_right k h2) hle, hE⟩, fun h => by cases h⟩
    · obtain ⟨m1, m2, m3⟩ := hM _ (List.mem_singleton.2 rfl)
      simp only [AVR]
      refine ⟨⟨trivial, rfl⟩, m3, fun k' d' els' ho => ?_⟩
      rw [m1] at ho
      cases ho
      refine ⟨_, q, rfl, h2, h3, .inr ⟨b, m2, by simp, ?_⟩⟩
      simp only [World.bsz, hw]
      simpa using hle
theorem imp_shal {k : Nat} {t : Bool} {els : List (List RD)} {v : Value} {rs cs fs : List Nat} (c : Nat) (h : DC w (.shal k t els) v rs cs fs) :
    ∃ es, Imp w nb c (c + 1) [.ob (nb + c) (some (.arr k false els))] es rs cs fs ∧ ∀ M : Mp, Has M es → AVR M w (.aref (nb + c) t) v [] := by
  simp only [DC] at h
  obtain ⟨rfl, A, q, rfl, h2, h3, h4⟩ := h
  rcases h4 with ⟨rfl, rfl, rfl, rfl⟩ | ⟨b, a, e, rfl, rfl, hw, hle, hE⟩
  · refine ⟨[⟨nb + c, .arr k false [], none, []⟩], ⟨rfl, rfl, rfl, rfl, rfl, fun M hM e he => ?_⟩, fun M hM => ?_⟩
    · simp only [List.mem_singleton] at he
      subst he
      refine ⟨.inl ⟨rfl, (hM _ (by simp)).2.1, rfl⟩, fun _ b h => h⟩
    · obtain ⟨m1, m2, m3⟩ := hM _ (List.mem_singleton.2 rfl)
      simp only [AVR]
      refine ⟨⟨trivial, rfl⟩, m3, fun k' d' els' ho => ?_⟩
      rw [m1] at ho
      cases ho
      exact ⟨A, 0, rfl, Nat.le_refl _, fun _ => rfl, .inl ⟨rfl, rfl⟩⟩
  · refine ⟨[⟨nb + c, .arr k false els, some b, fs⟩], ⟨rfl, rfl, rfl, rfl, by simp [Ent.cl, deepO], fun M hM x hx => ?_⟩, fun M hM => ?_⟩
    · simp only [List.mem_singleton] at hx
      subst hx
      obtain ⟨m1, m2, m3⟩ := hM _ (List.mem_singleton.2 rfl)
      refine ⟨.inr ⟨b, a, e, m2, hw, Nat.le_trans (Nat.mul_le_mul_right k h2) hle, hE⟩, fun _ b h => h⟩
    · obtain ⟨m1, m2, m3⟩ := hM _ (List.mem_singleton.2 rfl)
      simp only [AVR]
      refine ⟨⟨trivial, rfl⟩, m3, fun k' d' els' ho => ?_⟩
      rw [m1] at ho
      cases ho
      refine ⟨_, q, rfl, h2, h3, .inr ⟨b, m2, by simp, ?_⟩⟩
      simp only [World.bsz, hw]
      simpa using hle
theorem importCells_ok : ∀ {ds : List DV} {c : Nat} {vs : List AV} {us : List Upd} {c' : Nat} {uv : List Value} {rs cs fs : List Nat}, importCells nb c ds = some (vs, us, c') → DCs w ds uv rs cs fs →
    ∃ es, Imp w nb c c' us es rs cs fs ∧ vs.all isCell = true ∧ ∃ fs', (∀ b ∈ fs', b ∈ fs) ∧ ∀ M : Mp, Has M es → AVL M w vs uv fs'
  | [], c, vs, us, c', uv, rs, cs, fs, h, hD => by
    simp only [importCells, Option.some.injEq, Prod.mk.injEq] at h
    obtain ⟨rfl, rfl, rfl⟩ := h
    simp only [DCs] at hD
    obtain ⟨rfl, rfl, rfl, rfl⟩ := hD
    exact ⟨[], Imp.nil _ _, rfl, [], by simp, fun M _ => by simp [AVL]⟩
  | d :: ds, c, vs, us, c', uv, rs, cs, fs, h, hD => by
    simp only [DCs] at hD
    obtain ⟨v, uv', r1, r2, c1, c2, f1, f2, rfl, hd, hds, rfl, rfl, rfl⟩ := hD
    unfold importCells at h
    split at h
    · rename_i h0; cases h0
    · rename_i d0 r0 h0
      cases h0
      split at h
      · rename_i vs1 us1 c1' h1
        simp only [Option.some.injEq, Prod.mk.injEq] at h
        obtain ⟨rfl, rfl, rfl⟩ := h
        obtain ⟨es, e1, e2, g, eg, e3⟩ := importCells_ok h1 hds
        simp only [DC] at hd
        obtain ⟨rfl, rfl, hR⟩ := hd
        refine ⟨es, by simpa using e1.fs_mono (gs := f1 ++ f2) (fun b hb => by simp [hb]), by simp [isCell, e2], f1 ++ g, fun b hb => (List.mem_append.1 hb).elim (fun h => by simp [h]) (fun h => by simp [eg b h]), fun M hM => ?_⟩
        simp only [AVL]
        exact ⟨v, uv', f1, g, rfl, hR, e3 M hM, rfl⟩
      · cases h
    · rename_i k t els r0 h0
      cases h0
      split at h
      · rename_i vs1 us1 c1' h1
        simp only [Option.some.injEq, Prod.mk.injEq] at h
        obtain ⟨rfl, rfl, rfl⟩ := h
        obtain ⟨es, e1, e2, g, eg, e3⟩ := importCells_ok h1 hds
        obtain ⟨es0, q1, rfl, q3⟩ := imp_own (nb := nb) c hd
        refine ⟨es0 ++ es, by simpa using q1.append e1, by simp [isCell, e2], g, fun b hb => by simp [eg b hb], fun M hM => ?_⟩
        simp only [AVL]
        exact ⟨v, uv', [], g, rfl, q3 M hM.left, e3 M hM.right, rfl⟩
      · cases h
    · rename_i k t els r0 h0
      cases h0
      split at h
      · rename_i vs1 us1 c1' h1
        simp only [Option.some.injEq, Prod.mk.injEq] at h
        obtain ⟨rfl, rfl, rfl⟩ := h
        obtain ⟨es, e1, e2, g, eg, e3⟩ := importCells_ok h1 hds
        obtain ⟨es0, q1, q3⟩ := imp_shal (nb := nb) c hd
        refine ⟨es0 ++ es, q1.append e1, by simp [isCell, e2], g, fun b hb => by simp [eg b hb], fun M hM => ?_⟩
        simp only [AVL]
        exact ⟨v, uv', [], g, rfl, q3 M hM.left, e3 M hM.right, rfl⟩
      · cases h
    · cases h
theorem importOne_ok {d : DV} {c : Nat} {v : AV} {us : List Upd} {c' : Nat} {u : Value} {rs cs fs : List Nat} (h : importOne nb c d = some (v, us, c')) (hD : D1 w d u rs cs fs) :
    ∃ es fs', Imp w nb c c' us es rs cs fs ∧ (∀ b ∈ fs', b ∈ fs) ∧ ∀ M : Mp, Has M es → AVR M w v u fs' := by
  unfold importOne at h
  split at h
  · simp only [Option.some.injEq, Prod.mk.injEq] at h
    obtain ⟨rfl, rfl, rfl⟩ := h
    simp only [D1, DC] at hD
    obtain ⟨rfl, rfl, hR⟩ := hD
    exact ⟨[], fs, (Imp.nil _ _).fs_mono (by simp), fun _ h => h, fun M _ => hR⟩
  · simp only [Option.some.injEq, Prod.mk.injEq] at h
    obtain ⟨rfl, rfl, rfl⟩ := h
    obtain ⟨es, e1, rfl, e3⟩ := imp_own (nb := nb) c (show DC w _ u rs cs fs from hD)
    exact ⟨es, [], e1, fun _ h => h, e3⟩
  · simp only [Option.some.injEq, Prod.mk.injEq] at h
    obtain ⟨rfl, rfl, rfl⟩ := h
    obtain ⟨es, e1, e3⟩ := imp_shal (nb := nb) c (show DC w _ u rs cs fs from hD)
    exact ⟨es, [], e1, by simp, e3⟩
  · split at h
    · rename_i vs us1 c1 h1
      simp only [Option.some.injEq, Prod.mk.injEq] at h
      obtain ⟨rfl, rfl, rfl⟩ := h
      simp only [D1] at hD
      obtain ⟨b, a, e, r, rfl, hw, rfl, hDs⟩ := hD
      obtain ⟨es, e1, e2, g, eg, e3⟩ := importCells_ok h1 hDs
      refine ⟨⟨nb + c, .box 0 vs, some b, g⟩ :: es, [], ⟨?_, ?_, ?_, ?_, ?_, fun M hM x hx => ?_⟩, by simp, fun M hM => ?_⟩
      · rw [e1.hus]; rfl
      · rw [e1.hc, List.length_cons]; omega
      · simp only [List.map_cons, e1.hids, List.length_cons, List.range'_succ]; rfl
      · simp [e1.hrs]
      · simp [e1.hcs, Ent.cl, deepO]
      · rcases List.mem_cons.1 hx with rfl | hx
        · obtain ⟨m1, m2, m3⟩ := hM _ (List.mem_cons_self ..)
          exact ⟨⟨b, a, e, m2, hw, e3 M (fun e he => hM e (by simp [he])), e2⟩, fun _ b h => eg b h⟩
        · obtain ⟨h1, h2⟩ := e1.hob M (fun e he => hM e (by simp [he])) x hx
          exact ⟨h1, h2⟩
      · obtain ⟨m1, m2, m3⟩ := hM _ (List.mem_cons_self ..)
        simp only [AVR]
        exact ⟨⟨trivial, rfl⟩, m3, fun ty cells _ => ⟨b, m2, rfl⟩⟩
    · cases h
  · split at h
    · rename_i vs us1 c1 h1
      simp only [Option.some.injEq, Prod.mk.injEq] at h
      obtain ⟨rfl, rfl, rfl⟩ := h
      simp only [D1] at hD
      obtain ⟨uv, rfl, hDs⟩ := hD
      obtain ⟨es, e1, e2, g, eg, e3⟩ := importCells_ok h1 hDs
      refine ⟨es, g, e1, eg, fun M hM => ?_⟩
      simp only [AVR]
      exact ⟨uv, rfl, e3 M hM, e2⟩
    · cases h
  · cases h
theorem importMany_ok : ∀ {ds : List DV} {c : Nat} {vs : List AV} {us : List Upd} {c' : Nat} {uv : List Value} {rs cs fs : List Nat}, importMany nb c ds = some (vs, us, c') → Ds w ds uv rs cs fs →
    ∃ es fs', Imp w nb c c' us es rs cs fs ∧ (∀ b ∈ fs', b ∈ fs) ∧ ∀ M : Mp, Has M es → AVL M w vs uv fs'
  | [], c, vs, us, c', uv, rs, cs, fs, h, hD => by
    simp only [importMany, Option.some.injEq, Prod.mk.injEq] at h
    obtain ⟨rfl, rfl, rfl⟩ := h
    simp only [Ds] at hD
    obtain ⟨rfl, rfl, rfl, rfl⟩ := hD
    exact ⟨[], [], Imp.nil _ _, fun _ h => h, fun M _ => by simp [AVL]⟩
  | d :: ds, c, vs, us, c', uv, rs, cs, fs, h, hD => by
    simp only [Ds] at hD
    obtain ⟨v, uv', r1, r2, c1, c2, f1, f2, rfl, hd, hds, rfl, rfl, rfl⟩ := hD
    unfold importMany at h
    split at h
    · rename_i v1 us1 c1' h1
      split at h
      · rename_i vs2 us2 c2' h2
        simp only [Option.some.injEq, Prod.mk.injEq] at h
        obtain ⟨rfl, rfl, rfl⟩ := h
        obtain ⟨es, g, e1, e2, e3⟩ := importOne_ok h1 hd
        obtain ⟨es', g', q1, q2, q3⟩ := importMany_ok h2 hds
        refine ⟨es ++ es', g ++ g', e1.append q1, fun b hb => ?_, fun M hM => ?_⟩
        · exact (List.mem_append.1 hb).elim (fun h => List.mem_append_left _ (e2 b h)) (fun h => List.mem_append_right _ (q2 b h))
        · simp only [AVL]
          exact ⟨v, uv', g, g', rfl, e3 M hM.left, q3 M hM.right, rfl⟩
      · cases h
    · cases h
theorem importRes_ok {d : DV} {c : Nat} {v : AV} {us : List Upd} {c' : Nat} {u : Value} {rs cs fs : List Nat} (h : importRes nb c d = some (v, us, c')) (hD : DR w d u rs cs fs) :
    ∃ es fs', Imp w nb c c' us es rs cs fs ∧ (∀ b ∈ fs', b ∈ fs) ∧ ∀ M : Mp, Has M es → AVR M w v u fs' := by
  unfold importRes at h
  split at h
  · split at h
    · rename_i vs us1 c1 h1
      simp only [Option.some.injEq, Prod.mk.injEq] at h
      obtain ⟨rfl, rfl, rfl⟩ := h
      simp only [DR] at hD
      obtain ⟨uv, rfl, hDs⟩ := hD
      obtain ⟨es, g, e1, e2, e3⟩ := importMany_ok h1 hDs
      refine ⟨es, g, e1, e2, fun M hM => ?_⟩
      simp only [AVR]
      exact ⟨uv, rfl, e3 M hM⟩
    · cases h
  · rename_i hn
    have : D1 w d u rs cs fs := by
      unfold DR at hD
      split at hD
      · exact (hn _ rfl).elim
      · exact hD
    exact importOne_ok h this
end Go.Den
end
section
namespace Go.Den
open Go
set_option linter.unusedSimpArgs false
set_option linter.unusedVariables false
section
variable {P : Program} {E : Env} {w0 w w' : World} {rs : List Nat} {cs : Cs} {m m' : Gm} {cl : Nat → List Nat} {fr fr' : Nat → Prop} {st : St} {tmps : Array Value}
theorem Rel.tms (R : Rel w0 rs cs m cl fr st tmps w) {st' : St} {tmps' : Array Value} (h1 : st'.ob = st.ob) (h2 : st'.pm = st.pm)
    (h : ∀ t, ∃ fs, AVR (st.mp m fr) w (st'.tm t) (tmps'.getD t undef) fs ∧ Froz m st w fs) : Rel w0 rs cs m cl fr st' tmps' w := by
  have e1 : ∀ (m : Gm) (fr : Nat → Prop), st'.mp m fr = st.mp m fr := fun m fr => by simp only [St.mp, h1]
  have e2 : ∀ {fs : List Nat}, Froz m st w fs → Froz m st' w fs := by
    intro fs hf b hb
    refine ⟨(hf b hb).1, fun id hl hp => ?_⟩
    rw [h1] at hl; rw [h2] at hp
    exact (hf b hb).2 id hl hp
  constructor
  · exact R.fram
  · intro t
    obtain ⟨fs, a, b⟩ := h t
    exact ⟨fs, by rw [e1]; exact a, e2 b⟩
  · intro id o ho
    rw [h1] at ho
    obtain ⟨fs, a, b, c⟩ := R.ob id o ho
    exact ⟨fs, by rw [e1]; exact a, e2 b, fun hd hp => c hd (by rw [← h2]; exact hp)⟩
  · intro id id' b; rw [h1]; exact R.inj id id' b
  · intro id b; rw [h1]; exact R.mine id b
  · intro id o; rw [h1, h2]; exact R.cl1 id o
  · intro id id' o o'; rw [h1, h2]; exact R.cl2 id id' o o'
  · intro id hf; rw [h1, h2]; exact R.fr id hf
  · exact R.bad
  · exact R.badEq
def findE (es : List Ent) (i : Nat) : Option Ent := es.find? fun e => Nat.beq e.id i
theorem findE_some {es : List Ent} {i : Nat} {e : Ent} (h : findE es i = some e) : e ∈ es ∧ e.id = i :=
  ⟨List.mem_of_find?_eq_some h, Nat.eq_of_beq_eq_true (by simpa using List.find?_some h)⟩
theorem findE_none {es : List Ent} {i : Nat} (h : findE es i = none) : i ∉ es.map Ent.id := by
  intro hi
  obtain ⟨e, he, rfl⟩ := List.mem_map.1 hi
  have := List.find?_eq_none.1 h e he
  exact this (Nat.beq_refl _)
theorem findE_mem : ∀ {es : List Ent} {e : Ent}, (es.map Ent.id).Nodup → e ∈ es → findE es e.id = some e
  | x :: xs, e, hn, he => by
    simp only [List.map_cons, List.nodup_cons] at hn
    unfold findE
    rcases List.mem_cons.1 he with rfl | he
    · simp [List.find?_cons, Nat.beq_refl]
    · have : ¬ (Nat.beq x.id e.id = true) := fun h => hn.1 (by rw [Nat.eq_of_beq_eq_true h]; exact List.mem_map_of_mem he)
      have h2 := findE_mem hn.2 he
      unfold findE at h2
      simp only [List.find?_cons, eq_false_of_ne_true this, h2]
theorem findE_not {es : List Ent} {i : Nat} (h : i ∉ es.map Ent.id) : findE es i = none := by
  cases hf : findE es i with
  | none => rfl
  | some e => exact (h (by rw [← (findE_some hf).2]; exact List.mem_map_of_mem (findE_some hf).1)).elim
theorem up_not : ∀ {es : List Ent} {st : St} {i : Nat}, i ∉ es.map Ent.id → (st.upds (es.map Ent.up)).ob i = st.ob i
  | [], st, i, _ => rfl
  | e :: es, st, i, h => by
    simp only [List.map_cons, List.mem_cons, not_or] at h
    show ((st.upd (.ob e.id (some e.o))).upds (es.map Ent.up)).ob i = st.ob i
    rw [up_not h.2, upd_ob_other _ _ h.1]
theorem up_mem : ∀ {es : List Ent} {st : St} {e : Ent}, (es.map Ent.id).Nodup → e ∈ es → (st.upds (es.map Ent.up)).ob e.id = some e.o
  | x :: xs, st, e, hn, he => by
    simp only [List.map_cons, List.nodup_cons] at hn
    show ((st.upd (.ob x.id (some x.o))).upds (xs.map Ent.up)).ob e.id = some e.o
    rcases List.mem_cons.1 he with rfl | he
    · rw [up_not hn.1, upd_ob_same]
    · exact up_mem hn.2 he
theorem up_pm : ∀ {es : List Ent} {st : St}, (st.upds (es.map Ent.up)).pm = st.pm
  | [], st => rfl
  | e :: es, st => by
    show ((st.upd (.ob e.id (some e.o))).upds (es.map Ent.up)).pm = st.pm
    rw [up_pm (es := es)]; rfl
def goneU (g : List Nat) : List Upd := g.map fun id => .ob id none
theorem gone_ob : ∀ {g : List Nat} {st : St} {i : Nat}, (st.upds (goneU g)).ob i = if i ∈ g then none else st.ob i
  | [], st, i => by simp [goneU, St.upds]
  | x :: g, st, i => by
    show ((st.upd (.ob x none)).upds (goneU g)).ob i = _
    rw [gone_ob (g := g)]
    by_cases h : i = x
    · subst h; rw [upd_ob_same]; simp
    · rw [upd_ob_other _ _ h]; simp [h]
theorem gone_pm : ∀ {g : List Nat} {st : St}, (st.upds (goneU g)).pm = st.pm
  | [], st => rfl
  | x :: g, st => by
    show ((st.upd (.ob x none)).upds (goneU g)).pm = st.pm
    rw [gone_pm (g := g)]; rfl
def swapS (st : St) (g : List Nat) (es : List Ent) : St := (st.upds (goneU g)).upds (es.map Ent.up)
def swapM (m : Gm) (es : List Ent) : Gm := ⟨fun i => match findE es i with | some e => e.bk | none => m i, m.bad⟩
def swapC (cl : Nat → List Nat) (es : List Ent) : Nat → List Nat := fun i => match findE es i with | some e => e.fs | none => cl i
def swapF (fr : Nat → Prop) (es : List Ent) : Nat → Prop := fun i => fr i ∧ i ∉ es.map Ent.id
def Stays (st : St) (g : List Nat) (es : List Ent) (i : Nat) : Prop := i ∉ g ∧ i ∉ es.map Ent.id
structure Swaps (w0 : World) (rs : List Nat) (cs : Cs) (m : Gm) (cl : Nat → List Nat) (fr : Nat → Prop) (st : St) (w w' : World) (g : List Nat) (es : List Ent) (S : List Nat) : Prop where
  chg : Chg (· ∈ S) w w'
  ids : (es.map Ent.id).Nodup
  new : ∀ e ∈ es, fr e.id ∨ ∃ ty cells ty' cells', st.ob e.id = some (.box ty cells) ∧ e.o = .box ty' cells' ∧ e.bk = m e.id ∧ st.pm e.id = false
  old : ∀ b ∈ S, ∃ id, st.ob id ≠ none ∧ st.pm id = false ∧ m id = some b ∧ (id ∈ g ∨ id ∈ es.map Ent.id)
  ob : ∀ M : Mp, Has M es → ∀ e ∈ es, OBR M w' e.id e.o e.fs
  bks : (es.filterMap Ent.bk).Nodup
  bk : ∀ e ∈ es, ∀ b, e.bk = some b → b < w'.heap.size ∧ (b ∈ S ∨ w.heap.size ≤ b)
  fs : ∀ e ∈ es, ∀ b ∈ e.fs, (b < w'.heap.size ∧ ¬ m.bad b) ∧ (∀ e' ∈ es, e'.bk ≠ some b) ∧ ∀ id, id ∉ g → id ∉ es.map Ent.id → st.ob id ≠ none → st.pm id = false → m id ≠ some b
  cl1 : (es.flatMap Ent.cl).Nodup
  cl2 : ∀ b ∈ es.flatMap Ent.cl, b ∈ rs ∨ b ∈ cs ∨ w0.heap.size ≤ b
  cl3 : ∀ b ∈ es.flatMap Ent.cl, ∀ id o, id ∉ g → id ∉ es.map Ent.id → st.ob id = some o → deepO o = true → st.pm id = false → b ∉ cl id
theorem pair_nodup : ∀ {es : List Ent} {f : Ent → List Nat} {e e' : Ent} {b : Nat}, (es.flatMap f).Nodup → e ∈ es → e' ∈ es → b ∈ f e → b ∈ f e' → e = e'
  | x :: xs, f, e, e', b, hn, he, he', hb, hb' => by
    simp only [List.flatMap_cons, List.nodup_append] at hn
    rcases List.mem_cons.1 he with q | q <;> rcases List.mem_cons.1 he' with q' | q'
    · rw [q, q']
    · rw [q] at hb; exact (hn.2.2 b hb b (List.mem_flatMap.2 ⟨_, q', hb'⟩) rfl).elim
    · rw [q'] at hb'; exact (hn.2.2 b hb' b (List.mem_flatMap.2 ⟨_, q, hb⟩) rfl).elim
    · exact pair_nodup hn.2.1 q q' hb hb'
theorem one_nodup : ∀ {es : List Ent} {f : Ent → List Nat} {e : Ent}, (es.flatMap f).Nodup → e ∈ es → (f e).Nodup
  | x :: xs, f, e, hn, he => by
    simp only [List.flatMap_cons, List.nodup_append] at hn
    rcases List.mem_cons.1 he with rfl | he
    · exact hn.1
    · exact one_nodup hn.2.1 he
theorem bk_nodup {es : List Ent} (h : (es.filterMap Ent.bk).Nodup) : (es.flatMap fun e => e.bk.toList).Nodup := by
  have : es.flatMap (fun e => e.bk.toList) = es.filterMap Ent.bk := by
    clear h
    induction es with
    | nil => rfl
    | cons e es ih =>
      rw [List.flatMap_cons, ih]
      cases hb : e.bk <;> simp [hb]
  rw [this]; exact h
theorem Rel.swap (R : Rel w0 rs cs m cl fr st tmps w) {g : List Nat} {es : List Ent} {S : List Nat} (H : Swaps w0 rs cs m cl fr st w w' g es S) (hfr : ∀ id, fr id → id ∉ g) :
    Rel w0 rs cs (swapM m es) (swapC cl es) (swapF fr es) (swapS st g es) tmps w' ∧ Ext m st fr w (swapM m es) (swapS st g es) (swapF fr es) w' ∧ Has ((swapS st g es).mp (swapM m es) (swapF fr es)) es := by
  have hob_in : ∀ e ∈ es, (swapS st g es).ob e.id = some e.o := fun e he => up_mem H.ids he
  have hob_out : ∀ i, i ∉ es.map Ent.id → (swapS st g es).ob i = if i ∈ g then none else st.ob i := fun i hi => by
    unfold swapS; rw [up_not hi, gone_ob]
  have hpm : (swapS st g es).pm = st.pm := by unfold swapS; rw [up_pm, gone_pm]
  have hm_in : ∀ e ∈ es, (swapM m es) e.id = e.bk := fun e he => by simp [swapM, findE_mem H.ids he]
  have hm_out : ∀ i, i ∉ es.map Ent.id → (swapM m es) i = m i := fun i hi => by simp [swapM, findE_not hi]
  have hc_in : ∀ e ∈ es, swapC cl es e.id = e.fs := fun e he => by simp [swapC, findE_mem H.ids he]
  have hc_out : ∀ i, i ∉ es.map Ent.id → swapC cl es i = cl i := fun i hi => by simp [swapC, findE_not hi]
  have htm : (swapS st g es).tm = st.tm := by unfold swapS; rw [upds_tm, upds_tm]
  have hHas : Has ((swapS st g es).mp (swapM m es) (swapF fr es)) es := fun e he => ⟨hob_in e he, hm_in e he, fun h => h.2 (List.mem_map_of_mem he)⟩
  -- what is still there
  have live : ∀ i, i ∉ es.map Ent.id → (swapS st g es).ob i ≠ none → i ∉ g ∧ st.ob i ≠ none := by
    intro i hi h
    rw [hob_out i hi] at h
    by_cases hg : i ∈ g
    · simp [hg] at h
    · simpa [hg] using h
  have some_out : ∀ i o, i ∉ es.map Ent.id → (swapS st g es).ob i = some o → i ∉ g ∧ st.ob i = some o := by
    intro i o hi h
    rw [hob_out i hi] at h
    by_cases hg : i ∈ g
    · simp [hg] at h
    · simpa [hg] using h
  -- an object that stays has a block that is not S's, nor a new one
  have apart : ∀ i b, i ∉ g → i ∉ es.map Ent.id → st.ob i ≠ none → m i = some b → b ∉ S ∧ ∀ e ∈ es, e.bk ≠ some b := by
    intro i b hg hi hl hm
    have hS : b ∉ S := by
      intro hb
      obtain ⟨id, h1, h2, h3, h4⟩ := H.old b hb
      have := R.inj i id b hl h1 hm h3
      subst this
      exact h4.elim hg hi
    refine ⟨hS, fun e he hb => ?_⟩
    rcases (H.bk e he b hb).2 with h | h
    · exact hS h
    · have := (R.mine i b hl hm).1; omega
  have G : (st.mp m fr).Goes ((swapS st g es).mp (swapM m es) (swapF fr es)) w w' := by
    refine ⟨fun i h => h.1, fun i o' hf ho' => ?_, fun i b hf h1 h2 h3 => ?_, rfl⟩
    · simp only [St.mp] at ho' hf ⊢
      by_cases hi : i ∈ es.map Ent.id
      · obtain ⟨e, he, rfl⟩ := List.mem_map.1 hi
        rw [hob_in e he] at ho'
        cases ho'
        rcases H.new e he with h | ⟨ty, cells, ty', cells', h1, h2, h3, _⟩
        · exact (hf h).elim
        · exact ⟨_, h1, by rw [h2]; trivial, by rw [hm_in e he, h3]⟩
      · obtain ⟨_, h2⟩ := some_out i o' hi ho'
        exact ⟨o', h2, shape_refl o', hm_out i hi⟩
    · simp only [St.mp] at h1 h2 h3 hf
      by_cases hi : i ∈ es.map Ent.id
      · obtain ⟨e, he, rfl⟩ := List.mem_map.1 hi
        rcases H.new e he with h | ⟨ty, cells, ty', cells', q1, _⟩
        · exact (hf h).elim
        · obtain ⟨k, d, els, h1⟩ := h1
          rw [q1] at h1; cases h1
      · obtain ⟨hg, hl⟩ := live i hi h3
        have := (apart i b hg hi hl h2).1
        exact Nat.le_of_eq (bsz_of (H.chg.block b (R.mine i b hl h2).1 this)).symm
  have hS : ∀ b, b ∈ S → ∃ id, st.ob id ≠ none ∧ st.pm id = false ∧ m id = some b := fun b hb => by
    obtain ⟨id, h1, h2, h3, _⟩ := H.old b hb; exact ⟨id, h1, h2, h3⟩
  have hpm' : ∀ i, ¬ fr i → (swapS st g es).ob i ≠ none → (swapS st g es).pm i = false → st.pm i = false := fun i _ _ h => by rw [hpm] at h; exact h
  have hnew : ∀ i b, fr i → (swapS st g es).ob i ≠ none → (swapM m es) i = some b → w.heap.size ≤ b ∨ ∃ id0, st.ob id0 ≠ none ∧ st.pm id0 = false ∧ m id0 = some b := by
    intro i b hf hl hm
    by_cases hi : i ∈ es.map Ent.id
    · obtain ⟨e, he, rfl⟩ := List.mem_map.1 hi
      rw [hm_in e he] at hm
      exact (H.bk e he b hm).2.symm.imp_right (hS b)
    · exact ((live i hi hl).2 (R.fr i hf).1).elim
  have pmE : ∀ e ∈ es, st.pm e.id = false := fun e he => by
    rcases H.new e he with h | ⟨_, _, _, _, _, _, _, h⟩
    · exact (R.fr _ h).2
    · exact h
  have hFe : ∀ e ∈ es, Froz (swapM m es) (swapS st g es) w' e.fs := by
    intro e he b hb
    obtain ⟨h1, h2, h3⟩ := H.fs e he b hb
    refine ⟨h1, fun i hl hp hm => ?_⟩
    by_cases hi : i ∈ es.map Ent.id
    · obtain ⟨e', he', rfl⟩ := List.mem_map.1 hi
      rw [hm_in e' he'] at hm
      exact h2 e' he' hm
    · obtain ⟨hg, hl'⟩ := live i hi hl
      rw [hm_out i hi] at hm; rw [hpm] at hp
      exact h3 i hg hi hl' hp hm
  have R' : Rel w0 rs cs (swapM m es) (swapC cl es) (swapF fr es) (swapS st g es) tmps w' := by
    refine R.turn htm H.chg hS G hpm' hnew (fun i o' ho' => ?_) (fun i i' b h1 h2 h3 h4 => ?_) (fun i b h1 h2 => ?_) (fun i o h1 h2 h3 => ?_) (fun i i' o o' h1 h2 h3 h4 h5 h6 hne b hb => ?_) (fun i hf => ?_)
    · by_cases hi : i ∈ es.map Ent.id
      · obtain ⟨e, he, rfl⟩ := List.mem_map.1 hi
        rw [hob_in e he] at ho'
        cases ho'
        exact .inr ⟨e.fs, H.ob _ hHas e he, hFe e he, fun _ _ => (hc_in e he).symm⟩
      · obtain ⟨hg, ho⟩ := some_out i o' hi ho'
        exact .inl ⟨ho, fun hf => (by rw [(R.fr i hf).1] at ho; cases ho), fun b hb => (apart i b hg hi (by simp [ho]) hb).1, fun _ _ => hc_out i hi⟩
    · by_cases hi : i ∈ es.map Ent.id <;> by_cases hi' : i' ∈ es.map Ent.id
      · obtain ⟨e, he, rfl⟩ := List.mem_map.1 hi
        obtain ⟨e', he', rfl⟩ := List.mem_map.1 hi'
        rw [hm_in e he] at h3
        rw [hm_in e' he'] at h4
        rw [pair_nodup (f := fun e => e.bk.toList) (bk_nodup H.bks) he he' (b := b) (by simp [h3]) (by simp [h4])]
      · obtain ⟨e, he, rfl⟩ := List.mem_map.1 hi
        obtain ⟨hg, hl⟩ := live i' hi' h2
        rw [hm_in e he] at h3
        rw [hm_out i' hi'] at h4
        exact ((apart i' b hg hi' hl h4).2 e he h3).elim
      · obtain ⟨e, he, rfl⟩ := List.mem_map.1 hi'
        obtain ⟨hg, hl⟩ := live i hi h1
        rw [hm_in e he] at h4
        rw [hm_out i hi] at h3
        exact ((apart i b hg hi hl h3).2 e he h4).elim
      · rw [hm_out i hi] at h3
        rw [hm_out i' hi'] at h4
        exact R.inj i i' b (live i hi h1).2 (live i' hi' h2).2 h3 h4
    · by_cases hi : i ∈ es.map Ent.id
      · obtain ⟨e, he, rfl⟩ := List.mem_map.1 hi
        rw [hm_in e he] at h2
        obtain ⟨h3, h4⟩ := H.bk e he b h2
        refine ⟨h3, h4.elim (fun h => ?_) (fun h => .inr (Nat.le_trans R.fram.size h))⟩
        obtain ⟨id, q1, q2, q3⟩ := hS b h
        exact (R.mine id b q1 q3).2
      · rw [hm_out i hi] at h2
        obtain ⟨h3, h4⟩ := R.mine i b (live i hi h1).2 h2
        exact ⟨Nat.lt_of_lt_of_le h3 H.chg.size, h4⟩
    · by_cases hi : i ∈ es.map Ent.id
      · obtain ⟨e, he, rfl⟩ := List.mem_map.1 hi
        rw [hob_in e he] at h1
        cases h1
        rw [hc_in e he]
        have hcl : e.cl = e.fs := by simp [Ent.cl, h2]
        rw [← hcl]
        exact ⟨one_nodup H.cl1 he, fun b hb => H.cl2 b (List.mem_flatMap.2 ⟨e, he, hb⟩)⟩
      · obtain ⟨hg, ho⟩ := some_out i o hi h1
        rw [hc_out i hi]
        rw [hpm] at h3
        exact R.cl1 i o ho h2 h3
    · rw [hpm] at h5 h6
      by_cases hi : i ∈ es.map Ent.id <;> by_cases hi' : i' ∈ es.map Ent.id
      · obtain ⟨e, he, rfl⟩ := List.mem_map.1 hi
        obtain ⟨e', he', rfl⟩ := List.mem_map.1 hi'
        rw [hob_in e he] at h1; cases h1
        rw [hob_in e' he'] at h2; cases h2
        rw [hc_in e he] at hb
        rw [hc_in e' he']
        intro hb'
        exact hne (by rw [pair_nodup (f := Ent.cl) H.cl1 he he' (b := b) (by simp [Ent.cl, h3, hb]) (by simp [Ent.cl, h4, hb'])])
      · obtain ⟨e, he, rfl⟩ := List.mem_map.1 hi
        obtain ⟨hg, ho⟩ := some_out i' o' hi' h2
        rw [hob_in e he] at h1; cases h1
        rw [hc_in e he] at hb
        rw [hc_out i' hi']
        exact H.cl3 b (List.mem_flatMap.2 ⟨e, he, by simp [Ent.cl, h3, hb]⟩) i' o' hg hi' ho h4 h6
      · obtain ⟨e, he, rfl⟩ := List.mem_map.1 hi'
        obtain ⟨hg, ho⟩ := some_out i o hi h1
        rw [hob_in e he] at h2; cases h2
        rw [hc_out i hi] at hb
        rw [hc_in e he]
        intro hb'
        exact H.cl3 b (List.mem_flatMap.2 ⟨e, he, by simp [Ent.cl, h4, hb']⟩) i o hg hi ho h3 h5 hb
      · obtain ⟨_, ho⟩ := some_out i o hi h1
        obtain ⟨_, ho'⟩ := some_out i' o' hi' h2
        rw [hc_out i hi] at hb
        rw [hc_out i' hi']
        exact R.cl2 i i' o o' ho ho' h3 h4 h5 h6 hne b hb
    · refine ⟨?_, by rw [hpm]; exact (R.fr i hf.1).2⟩
      rw [hob_out i hf.2, (R.fr i hf.1).1]
      simp
  refine ⟨R', ⟨G, fun h => Froz.turn H.chg G hpm' hnew h, fun h b hb => ?_⟩, hHas⟩
  refine H.chg.block b (h b hb).1.1 (fun hs => ?_)
  obtain ⟨id, q1, q2, q3⟩ := hS b hs
  exact (h b hb).2 id q1 q2 q3
end
end Go.Den
end
section
namespace Go.Den
open Go
set_option linter.unusedSimpArgs false
set_option linter.unusedVariables false
def Ms (w : World) : List DV → List Value → List (List DV) → List Nat → List Nat → List Nat → Prop
  | [], _, ms, rs, cs, fs => ms = [] ∧ rs = [] ∧ cs = [] ∧ fs = []
  | .mut _ :: ds, vs, ms, rs, cs, fs => ∃ v us cells ms' r1 r2 c1 c2 f1 f2, vs = v :: us ∧ ms = cells :: ms' ∧ D1 w (.mut cells) v r1 c1 f1 ∧ Ms w ds us ms' r2 c2 f2 ∧ rs = r1 ++ r2 ∧ cs = c1 ++ c2 ∧ fs = f1 ++ f2
  | .ro _ :: ds, vs, ms, rs, cs, fs => Ms w ds vs.tail ms rs cs fs
  | .own _ _ _ :: ds, vs, ms, rs, cs, fs => Ms w ds vs.tail ms rs cs fs
  | .shal _ _ _ :: ds, vs, ms, rs, cs, fs => Ms w ds vs.tail ms rs cs fs
  | .agg _ :: ds, vs, ms, rs, cs, fs => Ms w ds vs.tail ms rs cs fs
  | .tup _ :: ds, vs, ms, rs, cs, fs => Ms w ds vs.tail ms rs cs fs
structure Pre (w : World) (ds : List DV) (args : List Value) (rs cs fs : List Nat) (bad : Nat → Prop) : Prop where
  d : Ds w ds args rs cs fs
  rs1 : rs.Nodup
  rs2 : ∀ b ∈ rs, b < w.heap.size ∧ ¬ bad b
  cs1 : cs.Nodup
  fs : ∀ b ∈ cs ++ fs, (b < w.heap.size ∧ ¬ bad b) ∧ b ∉ rs
  bad : ∀ b, bad b → b < w.heap.size
structure Post (w : World) (rs cs : List Nat) (bad : Nat → Prop) (ds : List DV) (args : List Value) (ms : List (List DV)) (r : DV) (u : Value) (w' : World) (rM cM fM rR cR fR : List Nat) : Prop where
  fram : Fram rs w w'
  m : Ms w' ds args ms rM cM fM
  r : DR w' r u rR cR fR
  rs1 : (rM ++ rR).Nodup
  rs2 : ∀ b ∈ rM ++ rR, b < w'.heap.size ∧ (b ∈ rs ∨ w.heap.size ≤ b)
  cs1 : (cM ++ cR).Nodup
  cs2 : ∀ b ∈ cM ++ cR, b ∈ rs ∨ b ∈ cs ∨ w.heap.size ≤ b
  fs : ∀ b ∈ (cM ++ cR) ++ (fM ++ fR), (b < w'.heap.size ∧ ¬ bad b) ∧ b ∉ rM ++ rR
def Sound (P : Program) (f : Nat) (F : Sm) : Prop :=
  ∀ ds ms r, F ds = some (ms, r) → ∀ (w : World) (args : Array Value) rs cs fs bad, Pre w ds args.toList rs cs fs bad →
    Calls P f args w fun e w' => ∃ u, e = .returned u ∧ ∃ rM cM fM rR cR fR, Post w rs cs bad ds args.toList ms r u w' rM cM fM rR cR fR
def Real (P : Program) (f : Nat) : Prop := ∃ fn, P.funcs[f]? = some fn ∧ (fn.name == "runtime.NumGoroutine") = false ∧ fn.body.isNone = false
section
variable {P : Program} {E : Env} {w0 w w' : World} {rs : List Nat} {cs : Cs} {m m' : Gm} {cl : Nat → List Nat} {fr fr' : Nat → Prop} {st : St} {tmps : Array Value}
theorem FrozBut.append {s t f g : List Nat} (h1 : FrozBut m st w s f) (h2 : FrozBut m st w t g) : FrozBut m st w (s ++ t) (f ++ g) := by
  intro b hb
  rcases List.mem_append.1 hb with hb | hb
  · exact (h1.mono (fun i hi => List.mem_append_left _ hi)) b hb
  · exact (h2.mono (fun i hi => List.mem_append_right _ hi)) b hb
theorem expC_ok (R : Rel w0 rs cs m cl fr st tmps w) {x : AV} {v : Value} {fs : List Nat} {r : RD × List Nat} (h : AVR (st.mp m fr) w x v fs) (hF : Froz m st w fs) (hA : Ans E st (expC x) r) :
    (∀ i ∈ r.2, st.ob i ≠ none) ∧ ∃ gs, RR w r.1 v gs ∧ FrozBut m st w r.2 gs := by
  unfold expC at hA
  split at hA
  · simp only [ans_ret] at hA
    subst hA
    exact ⟨by simp, fs, h, FrozBut.of hF _⟩
  · simp only [ans_ret] at hA
    subst hA
    simp only [AVR] at h
    refine ⟨by simp, [], ?_, fun b hb => (by cases hb)⟩
    simp only [RR]
    exact ⟨none, 0, h.1, Nat.le_refl _, fun _ => rfl, .inl ⟨trivial, trivial⟩⟩
  · rename_i id t
    simp only [ans_ob] at hA
    split at hA
    · rename_i k deep els hb
      simp only [ans_ret] at hA
      subst hA
      obtain ⟨gs, h1, h2, _⟩ := arr_RR R hb h
      exact ⟨fun i hi => by simp at hi; subst hi; simp [hb], gs, h1, h2⟩
    · exact hA.elim
  · rename_i id off n t
    simp only [ans_ob] at hA
    split at hA
    · rename_i k deep els hb
      simp only [ans_ret] at hA
      subst hA
      obtain ⟨gs, h1, h2, _⟩ := sref_RR R hb h
      exact ⟨fun i hi => by simp at hi; subst hi; simp [hb], gs, h1, h2⟩
    · exact hA.elim
  · exact hA.elim
theorem expCs_ok (R : Rel w0 rs cs m cl fr st tmps w) : ∀ {xs : List AV} {vs : List Value} {fs : List Nat} {r : List RD × List Nat}, AVL (st.mp m fr) w xs vs fs → Froz m st w fs → Ans E st (expCs xs) r →
    (∀ i ∈ r.2, st.ob i ≠ none) ∧ ∃ gs, RV w r.1 vs gs ∧ FrozBut m st w r.2 gs
  | [], vs, fs, r, h, hF, hA => by
    simp only [expCs, ans_ret] at hA
    subst hA
    simp only [AVL] at h
    exact ⟨by simp, [], by simp only [RV]; exact ⟨h.1, trivial⟩, fun b hb => (by cases hb)⟩
  | x :: xs, vs, fs, r, h, hF, hA => by
    simp only [AVL] at h
    obtain ⟨v, us, f, g, rfl, h1, h2, rfl⟩ := h
    simp only [expCs, ans_bind, ans_ret] at hA
    obtain ⟨r1, a1, r2, a2, rfl⟩ := hA
    obtain ⟨l1, g1, e1, e2⟩ := expC_ok R h1 (hF.sub (fun b hb => List.mem_append_left _ hb)) a1
    obtain ⟨l2, g2, e4, e5⟩ := expCs_ok R h2 (hF.sub (fun b hb => List.mem_append_right _ hb)) a2
    refine ⟨fun i hi => (List.mem_append.1 hi).elim (l1 i) (l2 i), g1 ++ g2, ?_, e2.append e5⟩
    simp only [RV]; exact ⟨v, us, g1, g2, rfl, e1, e4, rfl⟩
theorem expCap_ok (R : Rel w0 rs cs m cl fr st tmps w) {x : AV} {v : Value} {fs : List Nat} {r : RD × List Nat} (h : AVR (st.mp m fr) w x v fs) (hF : Froz m st w fs) (hA : Ans E st (expCap x) r) :
    (∀ i ∈ r.2, st.ob i ≠ none) ∧ ∃ gs, RR w r.1 v gs ∧ FrozBut m st w r.2 gs := by
  unfold expCap at hA
  split at hA
  · rename_i id
    simp only [ans_ob] at hA
    split at hA
    · rename_i ty cells hb
      simp only [ans_bind, ans_ret] at hA
      obtain ⟨r1, a1, rfl⟩ := hA
      obtain ⟨f, ⟨b, a, e, hm, hw, hL, _⟩, hFf, _⟩ := R.ob id _ hb
      obtain ⟨l1, gs, e1, e2⟩ := expCs_ok R hL hFf a1
      obtain ⟨b', hm', rfl⟩ := h.2.2 _ _ hb
      have hbb : b' = b := Option.some.inj (hm'.symm.trans hm)
      subst hbb
      have hm2 : m id = some b' := hm'
      refine ⟨fun i hi => ?_, b' :: gs, ?_, ?_⟩
      · rcases List.mem_cons.1 hi with rfl | hi
        · simp [hb]
        · exact l1 i hi
      · simp only [RR]
        refine ⟨b', 0, gs, rfl, rfl, RV_RL e1 (fun j hj => ?_)⟩
        simp [World.cell?, hw, hj]
      · intro x hx
        rcases List.mem_cons.1 hx with rfl | hx
        · refine ⟨⟨(R.mine id x (by simp [hb]) hm2).1, R.good (by simp [hb]) hm2⟩, fun i hi hl hp hmi => hi ?_⟩
          rw [R.inj i id x hl (by simp [hb]) hmi hm2]; simp
        · exact (e2.mono (fun i hi => List.mem_cons_of_mem _ hi)) x hx
    · exact hA.elim
  · exact expC_ok R h hF hA
theorem expCaps_ok (R : Rel w0 rs cs m cl fr st tmps w) : ∀ {xs : List AV} {vs : List Value} {fs : List Nat} {r : List RD × List Nat}, AVL (st.mp m fr) w xs vs fs → Froz m st w fs → Ans E st (expCaps xs) r →
    (∀ i ∈ r.2, st.ob i ≠ none) ∧ ∃ gs, RV w r.1 vs gs ∧ FrozBut m st w r.2 gs
  | [], vs, fs, r, h, hF, hA => by
    simp only [expCaps, ans_ret] at hA
    subst hA
    simp only [AVL] at h
    exact ⟨by simp, [], by simp only [RV]; exact ⟨h.1, trivial⟩, fun b hb => (by cases hb)⟩
  | x :: xs, vs, fs, r, h, hF, hA => by
    simp only [AVL] at h
    obtain ⟨v, us, f, g, rfl, h1, h2, rfl⟩ := h
    simp only [expCaps, ans_bind, ans_ret] at hA
    obtain ⟨r1, a1, r2, a2, rfl⟩ := hA
    obtain ⟨l1, g1, e1, e2⟩ := expCap_ok R h1 (hF.sub (fun b hb => List.mem_append_left _ hb)) a1
    obtain ⟨l2, g2, e4, e5⟩ := expCaps_ok R h2 (hF.sub (fun b hb => List.mem_append_right _ hb)) a2
    refine ⟨fun i hi => (List.mem_append.1 hi).elim (l1 i) (l2 i), g1 ++ g2, ?_, e2.append e5⟩
    simp only [RV]; exact ⟨v, us, g1, g2, rfl, e1, e4, rfl⟩
theorem RV_DCs : ∀ {ds : List RD} {vs : List Value} {gs : List Nat}, RV w ds vs gs → DCs w (ds.map .ro) vs [] [] gs
  | [], vs, gs, h => by simp only [RV] at h; simp only [List.map_nil, DCs]; exact ⟨h.1, trivial, trivial, h.2⟩
  | d :: ds, vs, gs, h => by
    simp only [RV] at h
    obtain ⟨v, us, f, g, rfl, h1, h2, rfl⟩ := h
    simp only [List.map_cons, DCs, DC]
    exact ⟨v, us, [], [], [], [], f, g, rfl, ⟨rfl, rfl, h1⟩, RV_DCs h2, rfl, rfl, rfl⟩
theorem RV_Ds : ∀ {ds : List RD} {vs : List Value} {gs : List Nat}, RV w ds vs gs → Ds w (ds.map .ro) vs [] [] gs
  | [], vs, gs, h => by simp only [RV] at h; simp only [List.map_nil, Ds]; exact ⟨h.1, trivial, trivial, h.2⟩
  | d :: ds, vs, gs, h => by
    simp only [RV] at h
    obtain ⟨v, us, f, g, rfl, h1, h2, rfl⟩ := h
    simp only [List.map_cons, Ds, D1, DC]
    exact ⟨v, us, [], [], [], [], f, g, rfl, ⟨rfl, rfl, h1⟩, RV_Ds h2, rfl, rfl, rfl⟩
theorem Ds_append : ∀ {d1 d2 : List DV} {v1 v2 : List Value} {r1 r2 c1 c2 f1 f2 : List Nat}, Ds w d1 v1 r1 c1 f1 → Ds w d2 v2 r2 c2 f2 → Ds w (d1 ++ d2) (v1 ++ v2) (r1 ++ r2) (c1 ++ c2) (f1 ++ f2)
  | [], d2, v1, v2, r1, r2, c1, c2, f1, f2, h1, h2 => by
    simp only [Ds] at h1
    obtain ⟨rfl, rfl, rfl, rfl⟩ := h1
    exact h2
  | d :: ds, d2, v1, v2, r1, r2, c1, c2, f1, f2, h1, h2 => by
    simp only [Ds] at h1
    obtain ⟨v, us, r, r', c, c', f, f', rfl, a, b, rfl, rfl, rfl⟩ := h1
    simp only [List.cons_append, Ds]
    exact ⟨v, us ++ v2, r, r' ++ r2, c, c' ++ c2, f, f' ++ f2, rfl, a, Ds_append b h2, by simp, by simp, by simp⟩
theorem expM_ok (R : Rel w0 rs cs m cl fr st tmps w) {x : AV} {v : Value} {fs : List Nat} {r : DV × List Nat} (h : AVR (st.mp m fr) w x v fs) (hF : Froz m st w fs) (hA : Ans E st (expM x) r) :
    (∀ i ∈ r.2, ∃ o, st.ob i = some o ∧ deepO o = true ∧ st.pm i = false) ∧ ∃ r1 c1 f1, DC w r.1 v r1 c1 f1 ∧ r1.Sublist (r.2.filterMap m) ∧ c1.Sublist (r.2.flatMap cl) ∧ Froz m st w f1 := by
  unfold expM at hA
  split at hA
  · simp only [ans_ret] at hA
    subst hA
    exact ⟨by simp, [], [], fs, ⟨rfl, rfl, h⟩, by simp, by simp, hF⟩
  · rename_i id t
    simp only [ans_ob] at hA
    split at hA
    · rename_i k deep els hb
      simp only [ans_pm, ans_ite, ans_ret, ans_fail, and_false, or_false, Bool.and_eq_true, Bool.not_eq_true'] at hA
      obtain ⟨⟨hd, hp⟩, rfl⟩ := hA
      refine ⟨fun i hi => by simp at hi; subst hi; exact ⟨_, hb, hd, hp⟩, ?_⟩
      obtain ⟨f, hO, hFf, hcl⟩ := R.ob id _ hb
      have hcl := hcl hd hp
      obtain ⟨A, c, rfl, h2, h3, h4⟩ := h.2.2 _ _ _ hb
      rcases h4 with ⟨h0, rfl⟩ | ⟨b, hm, rfl, hle⟩
      · have h0 := List.eq_nil_of_length_eq_zero h0
        subst h0
        exact ⟨[], [], [], ⟨rfl, A, 0, rfl, h2, h3, .inl ⟨rfl, rfl, rfl, rfl⟩⟩, by simp, by simp, froz_nil⟩
      · have hm2 : m id = some b := hm
        rcases hO with ⟨_, h0, _⟩ | ⟨b', a, e, hm', hw, hsz, hE⟩
        · have h0 : m id = none := h0
          rw [h0] at hm2; cases hm2
        · have hbb : b' = b := Option.some.inj (Eq.trans (Eq.symm (show m id = some b' from hm')) hm2)
          subst hbb
          refine ⟨[b'], f, [], ⟨rfl, _, c, rfl, h2, h3, .inr ⟨b', a, e, by simp, rfl, hw, by simpa [World.bsz, hw] using hle, hE⟩⟩, by simp [hm2], by simp [hcl], froz_nil⟩
    · exact hA.elim
  · exact hA.elim
theorem expMs_ok (R : Rel w0 rs cs m cl fr st tmps w) : ∀ {xs : List AV} {vs : List Value} {fs : List Nat} {r : List DV × List Nat}, AVL (st.mp m fr) w xs vs fs → Froz m st w fs → Ans E st (expMs xs) r →
    (∀ i ∈ r.2, ∃ o, st.ob i = some o ∧ deepO o = true ∧ st.pm i = false) ∧ ∃ r1 c1 f1, DCs w r.1 vs r1 c1 f1 ∧ r1.Sublist (r.2.filterMap m) ∧ c1.Sublist (r.2.flatMap cl) ∧ Froz m st w f1
  | [], vs, fs, r, h, hF, hA => by
    simp only [expMs, ans_ret] at hA
    subst hA
    simp only [AVL] at h
    exact ⟨by simp, [], [], [], by simp only [DCs]; exact ⟨h.1, trivial, trivial, trivial⟩, by simp, by simp, froz_nil⟩
  | x :: xs, vs, fs, r, h, hF, hA => by
    simp only [AVL] at h
    obtain ⟨v, us, f, g, rfl, h1, h2, rfl⟩ := h
    simp only [expMs, ans_bind, ans_ret] at hA
    obtain ⟨r1, a1, r2, a2, rfl⟩ := hA
    obtain ⟨l1, p1, p2, p3, e1, e2, e3, e4⟩ := expM_ok R h1 (hF.sub (fun b hb => List.mem_append_left _ hb)) a1
    obtain ⟨l2, q1, q2, q3, e5, e6, e7, e8⟩ := expMs_ok R h2 (hF.sub (fun b hb => List.mem_append_right _ hb)) a2
    refine ⟨fun i hi => (List.mem_append.1 hi).elim (l1 i) (l2 i), p1 ++ q1, p2 ++ q2, p3 ++ q3, ?_, ?_, ?_, fun b hb => (List.mem_append.1 hb).elim (e4 b) (e8 b)⟩
    · simp only [DCs]; exact ⟨v, us, p1, q1, p2, q2, p3, q3, rfl, e1, e5, rfl, rfl, rfl⟩
    · rw [List.filterMap_append]; exact e2.append e6
    · rw [List.flatMap_append]; exact e3.append e7
def MI (m : Gm) (st : St) : List DV → List Value → List (Nat × Nat) → Prop
  | [], _, mu => mu = []
  | .mut _ :: ds, vs, mu => ∃ v us id ty mu' cells b, vs = v :: us ∧ mu = (id, ty) :: mu' ∧ st.ob id = some (.box ty cells) ∧ st.pm id = false ∧ m id = some b ∧ v = .pointer (some ⟨b, 0, none⟩) ∧ MI m st ds us mu'
  | .ro _ :: ds, vs, mu => MI m st ds vs.tail mu
  | .own _ _ _ :: ds, vs, mu => MI m st ds vs.tail mu
  | .shal _ _ _ :: ds, vs, mu => MI m st ds vs.tail mu
  | .agg _ :: ds, vs, mu => MI m st ds vs.tail mu
  | .tup _ :: ds, vs, mu => MI m st ds vs.tail mu
theorem MI_append : ∀ {d1 d2 : List DV} {v1 v2 : List Value} {m1 m2 : List (Nat × Nat)}, v1.length = d1.length → MI m st d1 v1 m1 → MI m st d2 v2 m2 → MI m st (d1 ++ d2) (v1 ++ v2) (m1 ++ m2)
  | [], d2, v1, v2, m1, m2, hl, h1, h2 => by
    simp only [MI] at h1
    subst h1
    rw [List.eq_nil_of_length_eq_zero hl]
    exact h2
  | d :: ds, d2, v1, v2, m1, m2, hl, h1, h2 => by
    obtain ⟨v, us, rfl⟩ : ∃ v us, v1 = v :: us := by
      cases v1 with
      | nil => simp at hl
      | cons v us => exact ⟨v, us, rfl⟩
    have hl' : us.length = ds.length := by simpa using hl
    cases d with
    | «mut» cells =>
      simp only [MI] at h1
      obtain ⟨v', us', id, ty, mu', cells', b, e, rfl, q1, q2, q3, q4, q5⟩ := h1
      cases e
      simp only [List.cons_append, MI]
      exact ⟨_, _, id, ty, mu' ++ m2, cells', b, rfl, rfl, q1, q2, q3, q4, MI_append hl' q5 h2⟩
    | ro d => simp only [MI, List.tail_cons] at h1; simp only [List.cons_append, MI, List.tail_cons]; exact MI_append hl' h1 h2
    | own k t els => simp only [MI, List.tail_cons] at h1; simp only [List.cons_append, MI, List.tail_cons]; exact MI_append hl' h1 h2
    | shal k t els => simp only [MI, List.tail_cons] at h1; simp only [List.cons_append, MI, List.tail_cons]; exact MI_append hl' h1 h2
    | agg xs => simp only [MI, List.tail_cons] at h1; simp only [List.cons_append, MI, List.tail_cons]; exact MI_append hl' h1 h2
    | tup xs => simp only [MI, List.tail_cons] at h1; simp only [List.cons_append, MI, List.tail_cons]; exact MI_append hl' h1 h2
theorem MI_ro : ∀ {ds : List RD} {vs : List Value}, MI m st (ds.map .ro) vs []
  | [], vs => by simp [MI]
  | d :: ds, vs => by simp only [List.map_cons, MI]; exact MI_ro
theorem MI_mem : ∀ {ds : List DV} {vs : List Value} {mu : List (Nat × Nat)}, MI m st ds vs mu → ∀ p ∈ mu, ∃ cells b, st.ob p.1 = some (.box p.2 cells) ∧ st.pm p.1 = false ∧ m p.1 = some b
  | [], vs, mu, h, p, hp => by simp only [MI] at h; subst h; cases hp
  | .mut c :: ds, vs, mu, h, p, hp => by
    simp only [MI] at h
    obtain ⟨v', us', id, ty, mu', cells', b, e, rfl, q1, q2, q3, q4, q5⟩ := h
    rcases List.mem_cons.1 hp with rfl | hp
    · exact ⟨cells', b, q1, q2, q3⟩
    · exact MI_mem q5 p hp
  | .ro _ :: ds, vs, mu, h, p, hp => by simp only [MI] at h; exact MI_mem h p hp
  | .shal _ _ _ :: ds, vs, mu, h, p, hp => by simp only [MI] at h; exact MI_mem h p hp
  | .own _ _ _ :: ds, vs, mu, h, p, hp => by simp only [MI] at h; exact MI_mem h p hp
  | .agg _ :: ds, vs, mu, h, p, hp => by simp only [MI] at h; exact MI_mem h p hp
  | .tup _ :: ds, vs, mu, h, p, hp => by simp only [MI] at h; exact MI_mem h p hp
structure ExpOK (m : Gm) (cl : Nat → List Nat) (st : St) (w : World) (ds : List DV) (uv : List Value) (seals : List Nat) (muts : List (Nat × Nat)) (gone : List Nat) (rs cs fs : List Nat) : Prop where
  d : Ds w ds uv rs cs fs
  len : uv.length = ds.length
  rs : ∃ L : List Nat, L.Perm (muts.map (·.1) ++ gone) ∧ rs.Sublist (L.filterMap m)
  cs : cs.Sublist (gone.flatMap cl)
  fs : FrozBut m st w seals fs
  mi : MI m st ds uv muts
  gone : ∀ id ∈ gone, ∃ o, st.ob id = some o ∧ deepO o = true ∧ st.pm id = false
  seals : ∀ id ∈ seals, st.ob id ≠ none
theorem perm_mid {a b c d : List Nat} : ((a ++ b) ++ (c ++ d)).Perm ((a ++ c) ++ (b ++ d)) := by
  rw [List.append_assoc, List.append_assoc]
  refine List.Perm.append_left a ?_
  rw [← List.append_assoc, ← List.append_assoc]
  exact List.Perm.append_right d List.perm_append_comm
theorem ExpOK.append {d1 d2 : List DV} {v1 v2 : List Value} {s1 s2 : List Nat} {m1 m2 : List (Nat × Nat)} {g1 g2 r1 r2 c1 c2 f1 f2 : List Nat}
    (h1 : ExpOK m cl st w d1 v1 s1 m1 g1 r1 c1 f1) (h2 : ExpOK m cl st w d2 v2 s2 m2 g2 r2 c2 f2) : ExpOK m cl st w (d1 ++ d2) (v1 ++ v2) (s1 ++ s2) (m1 ++ m2) (g1 ++ g2) (r1 ++ r2) (c1 ++ c2) (f1 ++ f2) where
  d := Ds_append h1.d h2.d
  len := by simp [h1.len, h2.len]
  rs := by
    obtain ⟨L1, p1, q1⟩ := h1.rs
    obtain ⟨L2, p2, q2⟩ := h2.rs
    refine ⟨L1 ++ L2, (p1.append p2).trans ?_, by rw [List.filterMap_append]; exact q1.append q2⟩
    rw [List.map_append]
    exact perm_mid
  cs := by rw [List.flatMap_append]; exact h1.cs.append h2.cs
  fs := h1.fs.append h2.fs
  mi := MI_append h1.len h1.mi h2.mi
  gone id hi := (List.mem_append.1 hi).elim (h1.gone id) (h2.gone id)
  seals id hi := (List.mem_append.1 hi).elim (h1.seals id) (h2.seals id)
theorem ExpOK.ro {ds : List RD} {vs : List Value} {s gs : List Nat} (h : RV w ds vs gs) (hF : FrozBut m st w s gs) (hs : ∀ i ∈ s, st.ob i ≠ none) : ExpOK m cl st w (ds.map .ro) vs s [] [] [] [] gs where
  d := RV_Ds h
  len := by rw [RV_length h, List.length_map]
  rs := ⟨[], List.Perm.refl _, by simp⟩
  cs := by simp
  fs := hF
  mi := MI_ro
  gone id hi := by cases hi
  seals := hs
theorem expArg_ok (R : Rel w0 rs cs m cl fr st tmps w) {x : AV} {v : Value} {fs : List Nat} {r : Exp} (h : AVR (st.mp m fr) w x v fs) (hF : Froz m st w fs) (hA : Ans E st (expArg x) r) :
    ∃ r1 c1 f1, ExpOK m cl st w r.ds [v] r.seals r.muts r.gone r1 c1 f1 := by
  unfold expArg at hA
  split at hA
  · rename_i id
    simp only [ans_ob] at hA
    split at hA
    · rename_i ty cells hb
      simp only [ans_pm, ans_ite, ans_bind, ans_ret, ans_fail, and_false, or_false, Bool.not_eq_true'] at hA
      obtain ⟨hp, q, a1, rfl⟩ := hA
      obtain ⟨f, ⟨b, a, e, hm, hw, hL, _⟩, hFf, _⟩ := R.ob id _ hb
      obtain ⟨l1, r1, c1, f1, e1, e2, e3, e4⟩ := expMs_ok R hL hFf a1
      obtain ⟨b', hm', rfl⟩ := h.2.2 _ _ hb
      have hbb : b' = b := Option.some.inj (hm'.symm.trans hm)
      subst hbb
      have hm2 : m id = some b' := hm'
      refine ⟨b' :: r1, c1, f1, ⟨?_, rfl, ⟨id :: q.2, List.Perm.refl _, ?_⟩, e3, FrozBut.of e4 _, ?_, l1, by simp⟩⟩
      · simp only [Ds, D1]
        exact ⟨_, [], b' :: r1, [], c1, [], f1, [], rfl, ⟨b', a, e, r1, rfl, hw, rfl, e1⟩, ⟨rfl, rfl, rfl, rfl⟩, by simp, by simp, by simp⟩
      · simp only [List.filterMap_cons, hm2]
        exact e2.cons_cons _
      · simp only [MI]
        exact ⟨_, [], id, ty, [], cells, b', rfl, rfl, hb, hp, hm2, rfl, rfl⟩
    · exact hA.elim
  · rename_i xs
    simp only [ans_bind, ans_ret] at hA
    obtain ⟨q, a1, rfl⟩ := hA
    simp only [AVR] at h
    obtain ⟨vs, rfl, hL, _⟩ := h
    obtain ⟨l1, gs, e1, e2⟩ := expCs_ok R hL hF a1
    refine ⟨[], [], gs, ⟨?_, rfl, ⟨[], List.Perm.refl _, by simp⟩, by simp, e2, by simp [MI], by simp, l1⟩⟩
    simp only [Ds, D1]
    exact ⟨_, [], [], [], [], [], gs, [], rfl, ⟨vs, rfl, RV_DCs e1⟩, ⟨rfl, rfl, rfl, rfl⟩, rfl, rfl, by simp⟩
  · rename_i g caps
    simp only [ans_bind, ans_ret] at hA
    obtain ⟨q, a1, rfl⟩ := hA
    simp only [AVR] at h
    obtain ⟨vs, rfl, hL⟩ := h
    obtain ⟨l1, gs, e1, e2⟩ := expCaps_ok R hL hF a1
    have : RV w [RD.fn g q.1] [Value.func (.func g) #[] ⟨vs⟩] gs := by
      simp only [RV, RR]
      exact ⟨_, [], gs, [], rfl, ⟨vs, rfl, e1⟩, ⟨rfl, rfl⟩, by simp⟩
    exact ⟨[], [], gs, ExpOK.ro this e2 l1⟩
  · simp only [ans_bind, ans_ret] at hA
    obtain ⟨q, a1, rfl⟩ := hA
    obtain ⟨l1, gs, e1, e2⟩ := expC_ok R h hF a1
    have : RV w [q.1] [v] gs := by
      simp only [RV]
      exact ⟨_, [], gs, [], rfl, e1, ⟨rfl, rfl⟩, by simp⟩
    exact ⟨[], [], gs, ExpOK.ro this e2 l1⟩
theorem expArgs_ok (R : Rel w0 rs cs m cl fr st tmps w) : ∀ {xs : List AV} {vs : List Value} {fs : List Nat} {r : Exp}, AVL (st.mp m fr) w xs vs fs → Froz m st w fs → Ans E st (expArgs xs) r →
    ∃ r1 c1 f1, ExpOK m cl st w r.ds vs r.seals r.muts r.gone r1 c1 f1
  | [], vs, fs, r, h, hF, hA => by
    simp only [expArgs, ans_ret] at hA
    subst hA
    simp only [AVL] at h
    exact ⟨[], [], [], ⟨by simp only [Ds]; exact ⟨h.1, trivial, trivial, trivial⟩, by simp [h.1], ⟨[], List.Perm.refl _, by simp⟩, by simp, fun b hb => (by cases hb), by simp [MI], by simp, by simp⟩⟩
  | x :: xs, vs, fs, r, h, hF, hA => by
    simp only [AVL] at h
    obtain ⟨v, us, f, g, rfl, h1, h2, rfl⟩ := h
    simp only [expArgs, ans_bind, ans_ret] at hA
    obtain ⟨x1, a1, x2, a2, rfl⟩ := hA
    obtain ⟨r1, c1, f1, e1⟩ := expArg_ok R h1 (hF.sub (fun b hb => List.mem_append_left _ hb)) a1
    obtain ⟨r2, c2, f2, e2⟩ := expArgs_ok R h2 (hF.sub (fun b hb => List.mem_append_right _ hb)) a2
    exact ⟨_, _, _, e1.append e2⟩
end
end Go.Den
end
section
namespace Go.Den
open Go
set_option linter.unusedSimpArgs false
set_option linter.unusedVariables false
section
variable {P : Program} {E : Env} {w0 w w' : World} {rs : List Nat} {cs : Cs} {m m' : Gm} {cl : Nat → List Nat} {fr fr' : Nat → Prop} {st : St} {tmps : Array Value} {nb : Nat}
theorem aliasR_fs {d : RD} {v : Value} {gs : List Nat} (h : RR w d v gs) (ha : aliasR d = false) : gs = [] := by
  unfold aliasR at ha
  split at ha
  · simp only [RR] at h; exact h.2.2
  · cases ha
theorem aliasL_fs : ∀ {ds : List DV} {vs : List Value} {rs cs fs : List Nat}, DCs w ds vs rs cs fs → aliasL ds = false → fs = []
  | [], vs, rs, cs, fs, h, _ => by simp only [DCs] at h; exact h.2.2.2
  | d :: ds, vs, rs, cs, fs, h, ha => by
    simp only [DCs] at h
    obtain ⟨v, us, r1, r2, c1, c2, f1, f2, rfl, h1, h2, rfl, rfl, rfl⟩ := h
    unfold aliasL at ha
    split at ha
    · rename_i h0; cases h0
    · rename_i d0 r0 h0
      cases h0
      simp only [Bool.or_eq_false_iff] at ha
      simp only [DC] at h1
      rw [aliasR_fs h1.2.2 ha.1, aliasL_fs h2 ha.2]; rfl
    · rename_i h0
      cases h0
      simp only [DC] at h1
      rw [h1.1, aliasL_fs h2 ha]; rfl
    · cases ha
theorem alias1_fs {d : DV} {v : Value} {rs cs fs : List Nat} (h : D1 w d v rs cs fs) (ha : alias1 d = false) : fs = [] := by
  unfold alias1 at ha
  split at ha
  · simp only [D1, DC] at h; exact aliasR_fs h.2.2 ha
  · simp only [D1, DC] at h; exact h.1
  · cases ha
  · simp only [D1] at h
    obtain ⟨b, a, e, r, _, _, _, h⟩ := h
    exact aliasL_fs h ha
  · simp only [D1] at h
    obtain ⟨vs, _, h⟩ := h
    exact aliasL_fs h ha
  · cases ha
theorem aliasM_fs : ∀ {ds : List DV} {vs : List Value} {rs cs fs : List Nat}, Ds w ds vs rs cs fs → aliasM ds = false → fs = []
  | [], vs, rs, cs, fs, h, _ => by simp only [Ds] at h; exact h.2.2.2
  | d :: ds, vs, rs, cs, fs, h, ha => by
    simp only [Ds] at h
    obtain ⟨v, us, r1, r2, c1, c2, f1, f2, rfl, h1, h2, rfl, rfl, rfl⟩ := h
    simp only [aliasM, Bool.or_eq_false_iff] at ha
    rw [alias1_fs h1 ha.1, aliasM_fs h2 ha.2]; rfl
theorem alias_fs {d : DV} {v : Value} {rs cs fs : List Nat} (h : DR w d v rs cs fs) (ha : alias d = false) : fs = [] := by
  unfold alias at ha
  split at ha
  · simp only [DR] at h
    obtain ⟨vs, _, h⟩ := h
    exact aliasM_fs h ha
  · rename_i hn
    have : D1 w d v rs cs fs := by
      unfold DR at h
      split at h
      · exact (hn _ rfl).elim
      · exact h
    exact alias1_fs this ha
theorem aliasMs_fs : ∀ {ds : List DV} {vs : List Value} {ms : List (List DV)} {rs cs fs : List Nat}, Ms w ds vs ms rs cs fs → ms.any aliasL = false → fs = []
  | [], vs, ms, rs, cs, fs, h, _ => by simp only [Ms] at h; exact h.2.2.2
  | .mut c :: ds, vs, ms, rs, cs, fs, h, ha => by
    simp only [Ms] at h
    obtain ⟨v, us, cells, ms', r1, r2, c1, c2, f1, f2, rfl, rfl, h1, h2, rfl, rfl, rfl⟩ := h
    simp only [List.any_cons, Bool.or_eq_false_iff] at ha
    rw [alias1_fs h1 (by simpa [alias1] using ha.1), aliasMs_fs h2 ha.2]; rfl
  | .ro _ :: ds, vs, ms, rs, cs, fs, h, ha => by simp only [Ms] at h; exact aliasMs_fs h ha
  | .shal _ _ _ :: ds, vs, ms, rs, cs, fs, h, ha => by simp only [Ms] at h; exact aliasMs_fs h ha
  | .own _ _ _ :: ds, vs, ms, rs, cs, fs, h, ha => by simp only [Ms] at h; exact aliasMs_fs h ha
  | .agg _ :: ds, vs, ms, rs, cs, fs, h, ha => by simp only [Ms] at h; exact aliasMs_fs h ha
  | .tup _ :: ds, vs, ms, rs, cs, fs, h, ha => by simp only [Ms] at h; exact aliasMs_fs h ha
structure ImpM (m : Gm) (w : World) (lo c c' : Nat) (mu : List (Nat × Nat)) (us : List Upd) (es : List Ent) (rs cs fs : List Nat) : Prop where
  hus : us = es.map Ent.up
  hc : c ≤ c'
  hids : ∀ e ∈ es, ((∃ ty cells, (e.id, ty) ∈ mu ∧ e.o = .box ty cells) ∧ e.bk = m e.id) ∨ (lo + c ≤ e.id ∧ e.id < lo + c')
  hmu : ∀ p ∈ mu, p.1 ∈ es.map Ent.id
  hnd : (mu.map (·.1)).Nodup → (∀ p ∈ mu, p.1 < lo + c ∨ lo + c' ≤ p.1) → (es.map Ent.id).Nodup
  hrs : es.filterMap Ent.bk = rs
  hcs : es.flatMap Ent.cl = cs
  hob : ∀ M : Mp, Has M es → ∀ e ∈ es, OBR M w e.id e.o e.fs ∧ (deepO e.o = false → ∀ b ∈ e.fs, b ∈ fs)
theorem importMuts_ok : ∀ {ds : List DV} {uv : List Value} {mu : List (Nat × Nat)} {ms : List (List DV)} {c c' : Nat} {us : List Upd} {rs cs fs : List Nat}, importMuts nb c mu ms = some (us, c') → MI m st ds uv mu → Ms w ds uv ms rs cs fs →
    ∃ es, ImpM m w nb c c' mu us es rs cs fs
  | [], uv, mu, ms, c, c', us, rs, cs, fs, h, hM, hD => by
    simp only [MI] at hM
    simp only [Ms] at hD
    obtain ⟨rfl, rfl, rfl, rfl⟩ := hD
    subst hM
    simp only [importMuts, Option.some.injEq, Prod.mk.injEq] at h
    obtain ⟨rfl, rfl⟩ := h
    exact ⟨[], rfl, Nat.le_refl _, by simp, by simp, by simp, rfl, rfl, by simp⟩
  | .mut cl0 :: ds, uv, mu, ms, c, c', us, rs, cs, fs, h, hM, hD => by
    simp only [MI] at hM
    obtain ⟨v, us1, id, ty, mu', cells', b, e, rfl, q1, q2, q3, q4, q5⟩ := hM
    simp only [Ms] at hD
    obtain ⟨v', us1', cells, ms', r1, r2, c1, c2, f1, f2, e', rfl, h1, h2, rfl, rfl, rfl⟩ := hD
    subst e
    cases e'
    subst q4
    simp only [D1] at h1
    obtain ⟨b', a, ee, r, hv, hw, rfl, hDs⟩ := h1
    cases hv
    simp only [importMuts] at h
    split at h
    · rename_i vs us2 c2' i1
      split at h
      · rename_i us3 c3' i2
        simp only [Option.some.injEq, Prod.mk.injEq] at h
        obtain ⟨rfl, rfl⟩ := h
        obtain ⟨es1, e1, e2, f0, ef0, e3⟩ := importCells_ok i1 hDs
        obtain ⟨es2, g1⟩ := importMuts_ok i2 q5 h2
        have hids1 : ∀ e ∈ es1, nb + c ≤ e.id ∧ e.id < nb + c2' := by
          intro e he
          have : e.id ∈ List.range' (nb + c) es1.length := by rw [← e1.hids]; exact List.mem_map_of_mem he
          have h3 := List.mem_range'_1.1 this
          rw [e1.hc]; omega
        have hcc : c ≤ c2' := by rw [e1.hc]; omega
        refine ⟨⟨id, .box ty vs, some b, f0⟩ :: (es1 ++ es2), ⟨?_, Nat.le_trans hcc g1.hc, fun e he => ?_, fun p hp => ?_, fun hnd hout => ?_, ?_, ?_, fun M hM e he => ?_⟩⟩
        · rw [e1.hus, g1.hus]; simp [Ent.up]
        · rcases List.mem_cons.1 he with rfl | he
          · exact .inl ⟨⟨ty, vs, by simp, rfl⟩, q3.symm⟩
          · rcases List.mem_append.1 he with he | he
            · have := hids1 e he
              have := g1.hc
              exact .inr ⟨by omega, by omega⟩
            · rcases g1.hids e he with ⟨⟨ty, cells, hm, ho⟩, hb⟩ | h
              · exact .inl ⟨⟨ty, cells, by simp [hm], ho⟩, hb⟩
              · exact .inr ⟨by omega, h.2⟩
        · rcases List.mem_cons.1 hp with rfl | hp
          · simp
          · have := g1.hmu p hp
            simp only [List.map_cons, List.map_append, List.mem_cons, List.mem_append]
            exact .inr (.inr this)
        · simp only [List.map_cons, List.nodup_cons] at hnd
          have n2 := g1.hnd hnd.2 (fun p hp => by have := hout p (by simp [hp]); omega)
          have hid := hout (id, ty) (by simp)
          simp only [List.map_cons, List.map_append, List.nodup_cons, List.mem_append, not_or]
          refine ⟨⟨fun h => ?_, fun h => ?_⟩, List.nodup_append.2 ⟨by rw [e1.hids]; exact List.nodup_range', n2, fun x hx y hy hxy => ?_⟩⟩
          · obtain ⟨e, he, h4⟩ := List.mem_map.1 h
            have := hids1 e he
            have := g1.hc
            simp only at hid
            omega
          · obtain ⟨e, he, h4⟩ := List.mem_map.1 h
            rcases g1.hids e he with ⟨⟨ty', cells', hm, _⟩, _⟩ | h5
            · exact hnd.1 (List.mem_map.2 ⟨_, hm, h4⟩)
            · simp only at hid
              omega
          · subst hxy
            obtain ⟨e, he, h4⟩ := List.mem_map.1 hx
            obtain ⟨e', he', h5⟩ := List.mem_map.1 hy
            have h6 := hids1 e he
            rcases g1.hids e' he' with ⟨⟨ty', cells', hm, _⟩, _⟩ | h7
            · have := hout _ (List.mem_cons_of_mem _ hm)
              simp only at this
              have := g1.hc
              omega
            · omega
        · simp [List.filterMap_append, e1.hrs, g1.hrs]
        · simp [List.flatMap_append, e1.hcs, g1.hcs, Ent.cl, deepO]
        · have hM1 : Has M es1 := fun e he => hM e (by simp [he])
          have hM2 : Has M es2 := fun e he => hM e (by simp [he])
          rcases List.mem_cons.1 he with rfl | he
          · obtain ⟨m1, m2, m3⟩ := hM _ (List.mem_cons_self ..)
            exact ⟨⟨b, a, ee, m2, hw, e3 M hM1, e2⟩, fun _ b hb => by simp [ef0 b hb]⟩
          · rcases List.mem_append.1 he with he | he
            · obtain ⟨h3, h4⟩ := e1.hob M hM1 e he
              exact ⟨h3, fun hd b hb => by simp [h4 hd b hb]⟩
            · obtain ⟨h3, h4⟩ := g1.hob M hM2 e he
              exact ⟨h3, fun hd b hb => by simp [h4 hd b hb]⟩
      · cases h
    · cases h
  | .ro _ :: ds, uv, mu, ms, c, c', us, rs, cs, fs, h, hM, hD => by simp only [MI] at hM; simp only [Ms] at hD; exact importMuts_ok (ds := ds) h hM hD
  | .shal _ _ _ :: ds, uv, mu, ms, c, c', us, rs, cs, fs, h, hM, hD => by simp only [MI] at hM; simp only [Ms] at hD; exact importMuts_ok (ds := ds) h hM hD
  | .own _ _ _ :: ds, uv, mu, ms, c, c', us, rs, cs, fs, h, hM, hD => by simp only [MI] at hM; simp only [Ms] at hD; exact importMuts_ok (ds := ds) h hM hD
  | .agg _ :: ds, uv, mu, ms, c, c', us, rs, cs, fs, h, hM, hD => by simp only [MI] at hM; simp only [Ms] at hD; exact importMuts_ok (ds := ds) h hM hD
  | .tup _ :: ds, uv, mu, ms, c, c', us, rs, cs, fs, h, hM, hD => by simp only [MI] at hM; simp only [Ms] at hD; exact importMuts_ok (ds := ds) h hM hD
end
end Go.Den
end
section
namespace Go.Den
open Go
set_option linter.unusedSimpArgs false
set_option linter.unusedVariables false
section
variable {P : Program} {E : Env} {w0 w w' : World} {rs : List Nat} {cs : Cs} {m m' : Gm} {cl : Nat → List Nat} {fr fr' : Nat → Prop} {st : St} {tmps : Array Value} {nb : Nat} {v : AV} {us : List Upd}
theorem swap_froz {g : List Nat} {es : List Ent} (hn : (es.map Ent.id).Nodup) {fs : List Nat}
    (h : ∀ b ∈ fs, (b < w'.heap.size ∧ ¬ m.bad b) ∧ (∀ e' ∈ es, e'.bk ≠ some b) ∧ ∀ id, id ∉ g → id ∉ es.map Ent.id → st.ob id ≠ none → st.pm id = false → m id ≠ some b) :
    Froz (swapM m es) (swapS st g es) w' fs := by
  intro b hb
  obtain ⟨h1, h2, h3⟩ := h b hb
  refine ⟨h1, fun i hl hp hm => ?_⟩
  by_cases hi : i ∈ es.map Ent.id
  · obtain ⟨e', he', rfl⟩ := List.mem_map.1 hi
    have : (swapM m es) e'.id = e'.bk := by simp [swapM, findE_mem hn he']
    rw [this] at hm
    exact h2 e' he' hm
  · have h4 : (swapM m es) i = m i := by simp [swapM, findE_not hi]
    have h5 : (swapS st g es).ob i = if i ∈ g then none else st.ob i := by unfold swapS; rw [up_not hi, gone_ob]
    have h6 : (swapS st g es).pm = st.pm := by unfold swapS; rw [up_pm, gone_pm]
    rw [h4] at hm; rw [h6] at hp; rw [h5] at hl
    by_cases hg : i ∈ g
    · simp [hg] at hl
    · exact h3 i hg hi (by simpa [hg] using hl) hp hm
theorem fm_nodup {f : Nat → Option Nat} : ∀ {L : List Nat}, L.Nodup → (∀ i ∈ L, ∀ j ∈ L, ∀ b, f i = some b → f j = some b → i = j) → (L.filterMap f).Nodup
  | [], _, _ => by simp
  | x :: L, hn, h => by
    have hn' := List.nodup_cons.1 hn
    have ih := fm_nodup hn'.2 (fun i hi j hj => h i (by simp [hi]) j (by simp [hj]))
    cases hx : f x with
    | none => rw [List.filterMap_cons_none hx]; exact ih
    | some b =>
      rw [List.filterMap_cons_some hx]
      refine List.nodup_cons.2 ⟨fun hb => ?_, ih⟩
      obtain ⟨y, hy, hyb⟩ := List.mem_filterMap.1 hb
      have := h x (by simp) y (by simp [hy]) b hx hyb
      subst this
      exact hn'.1 hy
theorem flat_nodup {f : Nat → List Nat} : ∀ {L : List Nat}, L.Nodup → (∀ i ∈ L, (f i).Nodup) → (∀ i ∈ L, ∀ j ∈ L, i ≠ j → ∀ b ∈ f i, b ∉ f j) → (L.flatMap f).Nodup
  | [], _, _, _ => by simp
  | x :: L, hn, h1, h2 => by
    have hn' := List.nodup_cons.1 hn
    rw [List.flatMap_cons]
    refine List.nodup_append.2 ⟨h1 x (by simp), flat_nodup hn'.2 (fun i hi => h1 i (by simp [hi])) (fun i hi j hj => h2 i (by simp [hi]) j (by simp [hj])), fun b hb b' hb' e => ?_⟩
    subst e
    obtain ⟨y, hy, hyb⟩ := List.mem_flatMap.1 hb'
    exact h2 x (by simp) y (by simp [hy]) (fun e => hn'.1 (e ▸ hy)) b hb hyb
theorem ok_callF (R : Rel w0 rs cs m cl fr st tmps w) (hfr : ∀ id, fr' id → fr id ∧ (id < nb ∨ nb + 64 ≤ id)) (hnb : ∀ id, nb ≤ id → id < nb + 64 → fr id)
    (SE : ∀ f F, E.cs f = some F → Real P f ∧ Sound P f F) {g : Nat} {x : Exp} {extra : List DV} {uv : List Value} {r1 c1 f1 : List Nat}
    (hX : ExpOK m cl st w (x.ds ++ extra) uv x.seals x.muts x.gone r1 c1 f1) (h : Ans E st (callF nb g x extra) (v, us)) :
    Real P g ∧ Calls P g ⟨uv⟩ w fun e w' => ∃ u, e = .returned u ∧ Aft w0 rs cs fr' (st.upds us) tmps v u w' := by
  simp only [callF, ans_bind, ans_need, ans_call] at h
  obtain ⟨_, hnd, F, ms, r, hF, hFr, h⟩ := h
  obtain ⟨hreal, hsound⟩ := SE g F hF
  refine ⟨hreal, ?_⟩
  split at h
  · rename_i us1 c1' hi1
    split at h
    · rename_i v' us2 c2' hi2
      simp only [ans_ite, ans_ret, ans_fail, and_false, or_false, Prod.mk.injEq] at h
      obtain ⟨hc64, rfl, rfl⟩ := h
      have hc64 := Nat.le_of_ble_eq_true hc64
      have hnd' := nodupB_spec hnd
      obtain ⟨hndMG, hndS, hdisj⟩ := List.nodup_append.1 hnd'
      obtain ⟨hndM, hndG, hdMG⟩ := List.nodup_append.1 hndMG
      obtain ⟨L, hperm, hsub⟩ := hX.rs
      have hLnd : L.Nodup := hperm.nodup_iff.2 hndMG
      have hLmem : ∀ i, i ∈ L ↔ i ∈ x.muts.map (·.1) ∨ i ∈ x.gone := fun i => by rw [hperm.mem_iff, List.mem_append]
      have hM_in : ∀ i, i ∈ x.muts.map (·.1) → st.ob i ≠ none ∧ st.pm i = false := by
        intro i hi
        obtain ⟨p, hp, rfl⟩ := List.mem_map.1 hi
        obtain ⟨cells, b, q1, q2, _⟩ := MI_mem hX.mi p hp
        exact ⟨by simp [q1], q2⟩
      have hL_in : ∀ i ∈ L, st.ob i ≠ none ∧ st.pm i = false := by
        intro i hi
        rcases (hLmem i).1 hi with hi | hi
        · exact hM_in i hi
        · obtain ⟨o, q1, _, q2⟩ := hX.gone i hi
          exact ⟨by simp [q1], q2⟩
      have hLS : ∀ i ∈ L, i ∉ x.seals := by
        intro i hi hs
        have h1 : i ∈ x.muts.map (·.1) ++ x.gone := List.mem_append.2 ((hLmem i).1 hi)
        have h2 : (x.muts.isEmpty && x.gone.isEmpty) = false := by
          cases hq : (x.muts.isEmpty && x.gone.isEmpty) with
          | false => rfl
          | true =>
            simp only [Bool.and_eq_true, List.isEmpty_iff] at hq
            rw [hq.1, hq.2] at h1
            cases h1
        rw [h2] at hdisj
        exact hdisj i h1 i hs rfl
      have hr1 : ∀ b ∈ r1, ∃ i ∈ L, m i = some b := fun b hb => by
        obtain ⟨i, hi, hib⟩ := List.mem_filterMap.1 (hsub.subset hb)
        exact ⟨i, hi, hib⟩
      have hc1 : ∀ b ∈ c1, ∃ i ∈ x.gone, b ∈ cl i := fun b hb => List.mem_flatMap.1 (hX.cs.subset hb)
      have hcl_froz : ∀ i ∈ x.gone, Froz m st w (cl i) := by
        intro i hi
        obtain ⟨o, q1, q2, q3⟩ := hX.gone i hi
        obtain ⟨f, _, hf, hc⟩ := R.ob i o q1
        rw [hc q2 q3] at hf
        exact hf
      have hMnew : ∀ i, i ∈ x.muts.map (·.1) → i < nb ∨ nb + 64 ≤ i := by
        intro i hi
        by_cases h1 : nb ≤ i ∧ i < nb + 64
        · exact absurd (hnb i h1.1 h1.2) (not_fr R (hM_in i hi).1)
        · omega
      -- the blocks that are none of the callee's
      have hpre : Pre w (x.ds ++ extra) uv r1 c1 f1 (fun b => m.bad b ∨ ∃ id, st.ob id ≠ none ∧ st.pm id = false ∧ m id = some b ∧ id ∉ L ∧ id ∉ x.seals) := by
        refine ⟨hX.d, ?_, ?_, ?_, ?_, ?_⟩
        · refine hsub.nodup (fm_nodup hLnd (fun i hi j hj b h1 h2 => R.inj i j b (hL_in i hi).1 (hL_in j hj).1 h1 h2))
        · intro b hb
          obtain ⟨i, hi, hib⟩ := hr1 b hb
          refine ⟨(R.mine i b (hL_in i hi).1 hib).1, fun h => ?_⟩
          rcases h with h | ⟨id, q1, q2, q3, q4, q5⟩
          · exact R.good (hL_in i hi).1 hib h
          · have := R.inj i id b (hL_in i hi).1 q1 hib q3
            subst this
            exact q4 hi
        · refine hX.cs.nodup (flat_nodup hndG (fun i hi => ?_) (fun i hi j hj hne b hb => ?_))
          · obtain ⟨o, q1, q2, q3⟩ := hX.gone i hi
            exact (R.cl1 i o q1 q2 q3).1
          · obtain ⟨o, q1, q2, q3⟩ := hX.gone i hi
            obtain ⟨o', q1', q2', q3'⟩ := hX.gone j hj
            exact R.cl2 i j o o' q1 q1' q2 q2' q3 q3' hne b hb
        · intro b hb
          rcases List.mem_append.1 hb with hb | hb
          · obtain ⟨i, hi, hib⟩ := hc1 b hb
            obtain ⟨q1, q2⟩ := hcl_froz i hi b hib
            refine ⟨⟨q1.1, fun h => ?_⟩, fun h => ?_⟩
            · rcases h with h | ⟨id, p1, p2, p3, _⟩
              · exact q1.2 h
              · exact q2 id p1 p2 p3
            · obtain ⟨j, hj, hjb⟩ := hr1 b h
              exact q2 j (hL_in j hj).1 (hL_in j hj).2 hjb
          · obtain ⟨q1, q2⟩ := hX.fs b hb
            refine ⟨⟨q1.1, fun h => ?_⟩, fun h => ?_⟩
            · rcases h with h | ⟨id, p1, p2, p3, _, p5⟩
              · exact q1.2 h
              · exact q2 id p5 p1 p2 p3
            · obtain ⟨j, hj, hjb⟩ := hr1 b h
              exact q2 j (hLS j hj) (hL_in j hj).1 (hL_in j hj).2 hjb
        · rintro b (h | ⟨id, q1, q2, q3, _⟩)
          · exact Nat.lt_of_lt_of_le (R.bad b h).1 R.fram.size
          · exact (R.mine id b q1 q3).1
      refine (hsound _ ms r hFr w ⟨uv⟩ r1 c1 f1 _ hpre).mono ?_
      rintro e w' ⟨u, rfl, rM, cM, fM, rR, cR, fR, H⟩
      refine ⟨u, rfl, ?_⟩
      obtain ⟨esM, eM⟩ := importMuts_ok hi1 hX.mi H.m
      obtain ⟨esR, fs', eR, hfs', hAR⟩ := importRes_ok hi2 H.r
      have hc12 : c1' ≤ c2' := by rw [eR.hc]; omega
      -- the seals
      obtain ⟨sl, hsl⟩ : ∃ sl, sl = bif alias r || ms.any aliasL then x.seals else [] := ⟨_, rfl⟩
      have hslsub : ∀ i ∈ sl, i ∈ x.seals := by
        intro i hi
        rw [hsl] at hi
        cases hq : (alias r || ms.any aliasL) <;> rw [hq] at hi
        · cases hi
        · exact hi
      have hslfs : sl ≠ x.seals → fM ++ fR = [] := by
        intro hne
        cases hq : (alias r || ms.any aliasL) with
        | true => rw [hq] at hsl; exact (hne hsl).elim
        | false =>
          simp only [Bool.or_eq_false_iff] at hq
          rw [aliasMs_fs H.m hq.2, alias_fs H.r hq.1]; rfl
      have hus : (bif alias r || ms.any aliasL then x.seals.map Upd.wax else []) = sealU sl := by
        rw [hsl]
        cases (alias r || ms.any aliasL) <;> rfl
      have hLsl : ∀ i ∈ L, i ∉ sl := fun i hi hs => hLS i hi (hslsub i hs)
      have R1 := R.sealedAll (s := sl) (fun i hi => not_fr R (hX.seals i (hslsub i hi)))
      have hob1 : (st.upds (sealU sl)).ob = st.ob := seals_ob
      have hfin : st.upds ((bif alias r || ms.any aliasL then x.seals.map Upd.wax else []) ++ (x.gone.map (fun id => Upd.ob id none) ++ (us1 ++ us2))) = swapS (st.upds (sealU sl)) x.gone (esM ++ esR) := by
        rw [hus, upds_append, upds_append, eM.hus, eR.hus, ← List.map_append]
        rfl
      rw [hfin]
      have hidsM : ∀ e ∈ esM, e.id ∈ x.muts.map (·.1) ∨ (nb ≤ e.id ∧ e.id < nb + c1') := by
        intro e he
        rcases eM.hids e he with ⟨⟨ty, cells, hm, _⟩, _⟩ | h
        · exact .inl (List.mem_map.2 ⟨_, hm, rfl⟩)
        · exact .inr ⟨by omega, h.2⟩
      have hidsR : ∀ e ∈ esR, nb + c1' ≤ e.id ∧ e.id < nb + c2' := by
        intro e he
        have : e.id ∈ List.range' (nb + c1') esR.length := by rw [← eR.hids]; exact List.mem_map_of_mem he
        have h3 := List.mem_range'_1.1 this
        rw [eR.hc]; omega
      have hids : ((esM ++ esR).map Ent.id).Nodup := by
        rw [List.map_append]
        refine List.nodup_append.2 ⟨eM.hnd hndM (fun p hp => ?_), by rw [eR.hids]; exact List.nodup_range', fun i hi j hj hij => ?_⟩
        · have := hMnew p.1 (List.mem_map.2 ⟨p, hp, rfl⟩)
          omega
        · subst hij
          obtain ⟨e, he, h4⟩ := List.mem_map.1 hi
          obtain ⟨e', he', h5⟩ := List.mem_map.1 hj
          have h6 := hidsR e' he'
          rcases hidsM e he with h7 | h7
          · have := hMnew _ h7
            omega
          · omega
      have hmu_es : ∀ i, i ∈ x.muts.map (·.1) → i ∈ (esM ++ esR).map Ent.id := by
        intro i hi
        obtain ⟨p, hp, rfl⟩ := List.mem_map.1 hi
        rw [List.map_append]
        exact List.mem_append_left _ (eM.hmu p hp)
      have hbks : (esM ++ esR).filterMap Ent.bk = rM ++ rR := by rw [List.filterMap_append, eM.hrs, eR.hrs]
      have hcls : (esM ++ esR).flatMap Ent.cl = cM ++ cR := by rw [List.flatMap_append, eM.hcs, eR.hcs]
      have key : ∀ b ∈ (cM ++ cR) ++ (fM ++ fR), (b < w'.heap.size ∧ ¬ m.bad b) ∧ (∀ e' ∈ esM ++ esR, e'.bk ≠ some b) ∧
          ∀ id, id ∉ x.gone → id ∉ (esM ++ esR).map Ent.id → (st.upds (sealU sl)).ob id ≠ none → (st.upds (sealU sl)).pm id = false → m id ≠ some b := by
        intro b hb
        obtain ⟨⟨q1, q2⟩, q3⟩ := H.fs b hb
        refine ⟨⟨q1, fun h => q2 (.inl h)⟩, fun e' he' hbk => q3 ?_, fun id hg hi hl hp hm => ?_⟩
        · rw [← hbks]; exact List.mem_filterMap.2 ⟨e', he', hbk⟩
        · rw [hob1] at hl
          obtain ⟨hp, hns⟩ := seals_pm.1 hp
          have hnM : id ∉ x.muts.map (·.1) := fun h => hi (hmu_es id h)
          have hnL : id ∉ L := fun h => ((hLmem id).1 h).elim hnM hg
          by_cases hs : id ∈ x.seals
          · have hf := hslfs (fun e => hns (e ▸ hs))
            rw [hf, List.append_nil] at hb
            rcases H.cs2 b hb with h | h | h
            · obtain ⟨j, hj, hjb⟩ := hr1 b h
              have := R.inj id j b hl (hL_in j hj).1 hm hjb
              subst this
              exact hnL hj
            · obtain ⟨j, hj, hjb⟩ := hc1 b h
              exact (hcl_froz j hj b hjb).2 id hl hp hm
            · have := (R.mine id b hl hm).1; omega
          · exact q2 (.inr ⟨id, hl, hp, hm, hnL, hs⟩)
      have hSw : Swaps w0 rs cs m cl fr (st.upds (sealU sl)) w w' x.gone (esM ++ esR) r1 := by
        refine ⟨⟨H.fram.os, H.fram.tape, H.fram.output, H.fram.size, H.fram.block⟩, hids, fun e he => ?_, fun b hb => ?_, fun M hM e he => ?_, by rw [hbks]; exact H.rs1, fun e he b hb => ?_, fun e he b hb => key b ?_, by rw [hcls]; exact H.cs1, ?_, ?_⟩
        · rcases List.mem_append.1 he with he | he
          · rcases eM.hids e he with ⟨⟨ty, cells, hm, ho⟩, hbk⟩ | h
            · obtain ⟨cells', b, p1, p2, p3⟩ := MI_mem hX.mi _ hm
              refine .inr ⟨ty, cells', ty, cells, by rw [hob1]; exact p1, ho, hbk, seals_pm.2 ⟨p2, hLsl _ ((hLmem _).2 (.inl (List.mem_map.2 ⟨_, hm, rfl⟩)))⟩⟩
            · exact .inl (hnb _ (by omega) (by omega))
          · have := hidsR e he
            exact .inl (hnb _ (by omega) (by omega))
        · obtain ⟨i, hi, hib⟩ := hr1 b hb
          refine ⟨i, by rw [hob1]; exact (hL_in i hi).1, seals_pm.2 ⟨(hL_in i hi).2, hLsl i hi⟩, hib, ?_⟩
          rcases (hLmem i).1 hi with h | h
          · exact .inr (hmu_es i h)
          · exact .inl h
        · rcases List.mem_append.1 he with he | he
          · exact (eM.hob M hM.left e he).1
          · exact (eR.hob M hM.right e he).1
        · exact H.rs2 b (by rw [← hbks]; exact List.mem_filterMap.2 ⟨e, he, hb⟩)
        · by_cases hd : deepO e.o = true
          · refine List.mem_append_left _ ?_
            rw [← hcls]
            exact List.mem_flatMap.2 ⟨e, he, by simp [Ent.cl, hd, hb]⟩
          · refine List.mem_append_right _ ?_
            have hd : deepO e.o = false := by simpa using hd
            have hHas : Has ((swapS (st.upds (sealU sl)) x.gone (esM ++ esR)).mp (swapM m (esM ++ esR)) (swapF fr (esM ++ esR))) (esM ++ esR) := fun e he =>
              ⟨by simp only [St.mp]; exact up_mem hids he, by simp [St.mp, swapM, findE_mem hids he], fun h => h.2 (List.mem_map_of_mem he)⟩
            rcases List.mem_append.1 he with he | he
            · exact List.mem_append_left _ ((eM.hob _ hHas.left e he).2 hd b hb)
            · exact List.mem_append_right _ ((eR.hob _ hHas.right e he).2 hd b hb)
        · intro b hb
          rw [hcls] at hb
          rcases H.cs2 b hb with h | h | h
          · obtain ⟨j, hj, hjb⟩ := hr1 b h
            exact (R.mine j b (hL_in j hj).1 hjb).2.imp_right .inr
          · obtain ⟨j, hj, hjb⟩ := hc1 b h
            obtain ⟨o, q1, q2, q3⟩ := hX.gone j hj
            exact (R.cl1 j o q1 q2 q3).2 b hjb
          · exact .inr (.inr (Nat.le_trans R.fram.size h))
        · intro b hb id o hg hi ho hd hp hbc
          rw [hcls] at hb
          rw [hob1] at ho
          obtain ⟨hp, hns⟩ := seals_pm.1 hp
          obtain ⟨f, _, hf, hfc⟩ := R.ob id o ho
          rw [hfc hd hp] at hf
          obtain ⟨q1, q2⟩ := hf b hbc
          rcases H.cs2 b hb with h | h | h
          · obtain ⟨j, hj, hjb⟩ := hr1 b h
            exact q2 j (hL_in j hj).1 (hL_in j hj).2 hjb
          · obtain ⟨j, hj, hjb⟩ := hc1 b h
            obtain ⟨o', p1, p2, p3⟩ := hX.gone j hj
            exact R.cl2 j id o' o p1 ho p2 hd p3 hp (fun e => hg (e ▸ hj)) b hjb hbc
          · have := q1.1; omega
      obtain ⟨R2, X2, hH⟩ := R1.swap hSw (fun id hf hg => by
        obtain ⟨o, q1, _⟩ := hX.gone id hg
        exact not_fr R (by simp [q1]) hf)
      have hle : ∀ i, fr' i → swapF fr (esM ++ esR) i := by
        intro i hi
        obtain ⟨h1, h2⟩ := hfr i hi
        refine ⟨h1, fun h => ?_⟩
        rw [List.map_append] at h
        rcases List.mem_append.1 h with h | h
        · obtain ⟨e, he, h4⟩ := List.mem_map.1 h
          rcases hidsM e he with h5 | h5
          · rw [h4] at h5
            exact not_fr R (hM_in i h5).1 h1
          · omega
        · obtain ⟨e, he, h4⟩ := List.mem_map.1 h
          have := hidsR e he
          omega
      refine ⟨_, _, R2.less hle, fs', (hAR _ hH.right).goes (goes_fr hle _) (fun _ _ => rfl), swap_froz hids (fun b hb => key b ?_)⟩
      exact List.mem_append_right _ (List.mem_append_right _ (hfs' b hb))
    · exact h.elim
  · exact h.elim
end
end Go.Den
end
section
namespace Go.Den
open Go
set_option linter.unusedSimpArgs false
set_option linter.unusedVariables false
structure EnvOK (P : Program) (E : Env) : Prop where
  tt : ∀ t ti, E.tt t = some ti → ttOf P t = some ti
  eq : ∀ t ks, E.eqs t ks = true → EqOk P t ks
  cs : ∀ f F, E.cs f = some F → Real P f ∧ Sound P f F
section
variable {P : Program} {E : Env} {w0 w w' : World} {rs : List Nat} {cs : Cs} {m m' : Gm} {cl : Nat → List Nat} {fr fr' : Nat → Prop} {st : St} {tmps : Array Value}
variable {a : Act} {o : Oper} {nb : Nat} {v : AV} {us : List Upd}
theorem run_callFunc {f : Nat} {args : Array Value} (h : Real P f) : (callFunc f args).run P w = .ok (.enter f args) w := by
  obtain ⟨fn, h1, h2, h3⟩ := h
  simp only [callFunc, program, run_bind, Sem.run, h1, h2, h3, Bool.false_eq_true, if_false, run_pure]
theorem ok_call (OK : EnvOK P E) (R : Rel w0 rs cs m cl fr st a.tmps w) (hfr : ∀ id, fr' id → fr id ∧ (id < nb ∨ nb + 64 ≤ id)) (hnb : ∀ id, nb ≤ id → id < nb + 64 → fr id) {c : Call} (ho : o.op = .call c) {fo : Operand} (hc : c.callee = .value fo)
    (h : Ans E st (stepOp E nb o) (v, us)) : Did P o a.eval w (Aft w0 rs cs fr' (st.upds us) a.tmps v) := by
  simp only [stepOp, ho, hc, ans_bind] at h
  obtain ⟨fv, h1, vs, h2, x, h3, h⟩ := h
  obtain ⟨ff, hf1, hf2⟩ := opd_ok R h1
  obtain ⟨fs, hv1, hv2⟩ := opds_ok R h2
  obtain ⟨r1, c1, f1, hX⟩ := expArgs_ok R hv1 hv2 h3
  have fin : ∀ {g : Nat} {cv uv : List Value}, a.eval fo = .func (.func g) #[] ⟨cv⟩ → uv = c.args.toList.map a.eval ++ cv → (Real P g ∧ Calls P g ⟨uv⟩ w fun e w' => ∃ u, e = .returned u ∧ Aft w0 rs cs fr' (st.upds us) a.tmps v u w') →
      Did P o a.eval w (Aft w0 rs cs fr' (st.upds us) a.tmps v) := by
    rintro g cv uv hfo rfl ⟨hr, hcalls⟩
    refine .inr (.inr ⟨g, _, ?_, hcalls⟩)
    simp only [execOp, ho, resolve, hc, hfo, Deferred.ofValue, run_bind, run_pure, invoke]
    rw [run_callFunc hr]
    congr 2
    apply Array.ext'
    simp
  split at h
  · rename_i g caps
    simp only [AVR, RR] at hf1
    obtain ⟨cv, hfo, hV⟩ := hf1
    have hX2 := hX.append (ExpOK.ro (cl := cl) (s := []) hV (FrozBut.of hf2 []) (by simp))
    simp only [List.append_nil] at hX2
    exact fin hfo rfl (ok_callF R hfr hnb OK.cs hX2 h)
  · rename_i g caps
    simp only [ans_bind] at h
    obtain ⟨q, h4, h⟩ := h
    simp only [AVR] at hf1
    obtain ⟨cv, hfo, hL⟩ := hf1
    obtain ⟨l1, gs, e1, e2⟩ := expCaps_ok R hL hf2 h4
    have hX2 := hX.append (ExpOK.ro (cl := cl) e1 e2 l1)
    simp only [List.append_nil] at hX2
    exact fin hfo rfl (ok_callF (x := { x with seals := x.seals ++ q.2 }) R hfr hnb OK.cs hX2 h)
  · exact h.elim
theorem ok_store (OK : EnvOK P E) (R : Rel w0 rs cs m cl fr st a.tmps w) (hfr : ∀ id, fr' id → fr id ∧ (id < nb ∨ nb + 64 ≤ id)) (hnb : ∀ id, nb ≤ id → id < nb + 64 → fr id) {t : Nat} {x y : Operand} (ho : o.op = .store t x y)
    (h : Ans E st (stepOp E nb o) (v, us)) : Did P o a.eval w (Aft w0 rs cs fr' (st.upds us) a.tmps v) := by
  simp only [stepOp, ho, ans_bind, ans_tt, ans_need, Bool.and_eq_true] at h
  obtain ⟨ti, ht, p, h1, q, h2, _, ⟨⟨hcl, hn⟩, hc⟩, h⟩ := h
  have hcl := Nat.eq_of_beq_eq_true hcl
  have hn := Nat.le_of_ble_eq_true hn
  split at h
  · rename_i id j
    simp only [ans_ob] at h
    split at h
    · rename_i ty cells hb
      simp only [ans_pm, ans_bind, ans_need, ans_ret, Prod.mk.injEq, Bool.and_eq_true, Bool.not_eq_true'] at h
      obtain ⟨_, ⟨hp, hle⟩, r, h3, rfl, rfl⟩ := h
      exact ok_storeBox OK.tt R hfr hnb ho ht h1 h2 hcl hn hc hb hp (Nat.le_of_ble_eq_true hle) h3
    · exact h.elim
  · rename_i id i j
    simp only [ans_ob] at h
    split at h
    · rename_i k deep els hb
      simp only [ans_pm] at h
      split at h
      · rename_i c hi
        simp only [ans_bind, ans_need, ans_ret, Prod.mk.injEq, Bool.and_eq_true, Bool.not_eq_true'] at h
        obtain ⟨_, ⟨hp, hle⟩, r, h3, _, hnd, rfl, rfl⟩ := h
        exact ok_storeArr OK.tt R (fun i hi => (hfr i hi).1) ho ht h1 h2 hcl hc hb hp hi (Nat.le_of_ble_eq_true hle) h3 hnd
      · exact h.elim
    · exact h.elim
  · exact h.elim
theorem step_ok (OK : EnvOK P E) (R : Rel w0 rs cs m cl fr st a.tmps w) (hfr : ∀ id, fr' id → fr id ∧ (id < nb ∨ nb + 64 ≤ id)) (hnb : ∀ id, nb ≤ id → id < nb + 64 → fr id)
    (h : Ans E st (stepOp E nb o) (v, us)) : Did P o a.eval w (Aft w0 rs cs fr' (st.upds us) a.tmps v) := by
  have hfr1 : ∀ id, fr' id → fr id := fun i hi => (hfr i hi).1
  cases ho : o.op
  case move => exact ok_move R hfr1 (.inl ho) h
  case assign => exact ok_move R hfr1 (.inr ho) h
  case pick => exact ok_pick R hfr1 ho h
  case alloc => exact ok_alloc OK.tt R hfr hnb ho h
  case box => exact ok_box R hfr hnb ho h
  case build => exact ok_build OK.tt R hfr1 ho h
  case buildSlice => exact ok_buildSlice OK.tt R hfr hnb ho h
  case load => exact ok_load OK.tt R hfr1 ho h
  case store => exact ok_store OK R hfr hnb ho h
  case nilCheck => exact ok_nilCheck R hfr1 ho h
  case binOp => exact ok_binOp OK.tt OK.eq R hfr1 ho h
  case unOp => exact ok_unOp R hfr1 ho h
  case convert => exact ok_convert OK.tt R hfr1 ho h
  case makeFunc f first captured =>
    cases f with
    | func g => exact ok_makeFunc R hfr1 ho h
    | method => simp [stepOp, ho] at h
    | methodOf => simp [stepOp, ho] at h
    | via => simp [stepOp, ho] at h
    | yield => simp [stepOp, ho] at h
  case makeSlice => exact ok_makeSlice OK.tt R hfr hnb ho h
  case makeMap t x =>
    cases x with
    | none => exact ok_makeMap R hfr hnb ho h
    | some => simp [stepOp, ho] at h
  case mapUpdate => exact ok_mapPut OK.tt R hfr1 (.inl ho) (by simpa only [stepOp, ho] using h)
  case insert => exact ok_mapPut OK.tt R hfr1 (.inr ho) (by simpa only [stepOp, ho] using h)
  case lookup t x i b =>
    cases b with
    | false => exact ok_lookup OK.tt R hfr1 ho h
    | true => simp [stepOp, ho] at h
  case slice => exact ok_slice OK.tt R hfr1 ho h
  case fieldAddr => exact ok_fieldAddr OK.tt R hfr1 ho h
  case field => exact ok_field OK.tt R hfr1 ho h
  case indexAddr => exact ok_indexAddr OK.tt R hfr1 ho h
  case index => exact ok_index OK.tt R hfr1 ho h
  case extract => exact ok_extract R hfr1 ho h
  case call c =>
    cases hc : c.callee with
    | builtin b =>
      cases b
      case len => exact ok_len OK.tt R hfr1 ho hc h
      case max => exact ok_max R hfr1 ho hc h
      case min => exact ok_min R hfr1 ho hc h
      case append => exact ok_append OK.tt R hfr hnb ho hc h
      all_goals simp [stepOp, ho, hc] at h
    | invoke => simp [stepOp, ho, hc] at h
    | value fo => exact ok_call OK R hfr hnb ho hc h
  all_goals simp [stepOp, ho] at h
end
end Go.Den
end
section
namespace Go.Den
open Go
set_option linter.unusedSimpArgs false
set_option linter.unusedVariables false
def Same (st st' : St) (k : Nat) : Prop :=
  (∀ id, k = 3 * id → st.ob id = st'.ob id) ∧ (∀ id, k = 3 * id + 1 → st.pm id = st'.pm id) ∧ (∀ t, k = 3 * t + 2 → st.tm t = st'.tm t)
theorem Same.refl (st : St) (k : Nat) : Same st st k := ⟨fun _ _ => rfl, fun _ _ => rfl, fun _ _ => rfl⟩
theorem Same.symm {st st' : St} {k : Nat} (h : Same st st' k) : Same st' st k := ⟨fun i e => (h.1 i e).symm, fun i e => (h.2.1 i e).symm, fun i e => (h.2.2 i e).symm⟩
theorem Same.trans {a b c : St} {k : Nat} (h : Same a b k) (h' : Same b c k) : Same a c k :=
  ⟨fun i e => (h.1 i e).trans (h'.1 i e), fun i e => (h.2.1 i e).trans (h'.2.1 i e), fun i e => (h.2.2 i e).trans (h'.2.2 i e)⟩
section
variable {α R : Type} {E : Env}
theorem run_log (q : Rq α) : ∀ {st : St} {K : α → List Nat → Option R} {l : List Nat} {r : R}, q.run E st K l = some r →
    ∃ a l', K a l' = some r ∧ (∀ k ∈ l, k ∈ l') ∧ ∀ st', (∀ k ∈ l', Same st st' k) → Ans E st' q a := by
  induction q with
  | ret a => intro st K l r h; exact ⟨a, l, h, fun _ h => h, fun _ _ => rfl⟩
  | fail => intro st K l r h; cases h
  | tm t k ih =>
    intro st K l r h
    obtain ⟨a, l', h1, h2, h3⟩ := ih _ h
    refine ⟨a, l', h1, fun x hx => h2 x (by simp [hx]), fun st' hs => ?_⟩
    simp only [ans_tm]
    rw [← (hs _ (h2 (3 * t + 2) (by simp))).2.2 t rfl]
    exact h3 st' hs
  | ob id k ih =>
    intro st K l r h
    obtain ⟨a, l', h1, h2, h3⟩ := ih _ h
    refine ⟨a, l', h1, fun x hx => h2 x (by simp [hx]), fun st' hs => ?_⟩
    simp only [ans_ob]
    rw [← (hs _ (h2 (3 * id) (by simp))).1 id rfl]
    exact h3 st' hs
  | pm id k ih =>
    intro st K l r h
    obtain ⟨a, l', h1, h2, h3⟩ := ih _ h
    refine ⟨a, l', h1, fun x hx => h2 x (by simp [hx]), fun st' hs => ?_⟩
    simp only [ans_pm]
    rw [← (hs _ (h2 (3 * id + 1) (by simp))).2.1 id rfl]
    exact h3 st' hs
  | call f args k ih =>
    intro st K l r h
    simp only [Rq.run] at h
    split at h
    · rename_i F hF
      split at h
      · rename_i m r' hr
        obtain ⟨a, l', h1, h2, h3⟩ := ih m r' h
        exact ⟨a, l', h1, h2, fun st' hs => ⟨F, m, r', hF, hr, h3 st' hs⟩⟩
      · cases h
    · cases h
  | ite c x y ihx ihy =>
    intro st K l r h
    cases c with
    | true => obtain ⟨a, l', h1, h2, h3⟩ := ihx h; exact ⟨a, l', h1, h2, fun st' hs => .inl ⟨rfl, h3 st' hs⟩⟩
    | false => obtain ⟨a, l', h1, h2, h3⟩ := ihy h; exact ⟨a, l', h1, h2, fun st' hs => .inr ⟨rfl, h3 st' hs⟩⟩
end
structure Tr where
  o : Oper
  i : Nat
  v : AV
  us : List Upd
  rs : List Nat
  on : Bool
def Tr.ap (T : Tr) (st : St) : St := (st.upds T.us).set T.o.dst T.v
def Tr.lg (T : Tr) : Lg := ⟨T.i, T.rs, wsOf T.o.dst T.us⟩
def apAll (Ts : List Tr) (st : St) : St := Ts.foldl (fun s T => T.ap s) st
def TrOk (E : Env) (ops : Array Oper) (nb : Nat) (T : Tr) (st : St) : Prop :=
  (T.on = true ∧ Ans E st (stepOp E (nb + 64 * T.i) T.o) (T.v, T.us) ∧ (T.o.guard = none ∨ ∃ g want t, T.o.guard = some (g, want) ∧ (ops[g]?).bind (·.dst) = some t ∧ st.tm t = .rd (.lit (.bool want)))) ∨
  (T.on = false ∧ T.v = .tup [] ∧ T.us = [] ∧ ∃ g want t, T.o.guard = some (g, want) ∧ (ops[g]?).bind (·.dst) = some t ∧ ((∃ b, st.tm t = .rd (.lit (.bool b)) ∧ (b == want) = false) ∨ ∃ xs, st.tm t = .tup xs))
def Trace (E : Env) (ops : Array Oper) (nb : Nat) : List Tr → St → Prop
  | [], _ => True
  | T :: Ts, st => (∀ st', (∀ k ∈ T.rs, Same st st' k) → TrOk E ops nb T st') ∧ Trace E ops nb Ts (T.ap st)
theorem runOps_tr {R : Type} {E : Env} {ops : Array Oper} {nb : Nat} : ∀ {l : List (Oper × Nat)} {st : St} {lg : List Lg} {K : St → List Lg → Option R} {r : R}, runOps E ops nb l st lg K = some r →
    ∃ Ts : List Tr, Ts.map (fun T => (T.o, T.i)) = l ∧ Trace E ops nb Ts st ∧ K (apAll Ts st) ((Ts.map Tr.lg).reverse ++ lg) = some r
  | [], st, lg, K, r, h => ⟨[], rfl, trivial, h⟩
  | (o, i) :: l, st, lg, K, r, h => by
    have fin : ∀ (T : Tr), T.o = o → T.i = i → (∀ st', (∀ k ∈ T.rs, Same st st' k) → TrOk E ops nb T st') → runOps E ops nb l (T.ap st) (T.lg :: lg) K = some r →
        ∃ Ts : List Tr, Ts.map (fun T => (T.o, T.i)) = (o, i) :: l ∧ Trace E ops nb Ts st ∧ K (apAll Ts st) ((Ts.map Tr.lg).reverse ++ lg) = some r := by
      intro T h1 h2 h3 h4
      obtain ⟨Ts, e1, e2, e3⟩ := runOps_tr h4
      refine ⟨T :: Ts, by simp [h1, h2, e1], ⟨h3, e2⟩, ?_⟩
      simpa [apAll] using e3
    unfold runOps at h
    split at h
    · rename_i hg
      obtain ⟨⟨v, us⟩, l', h1, _, h3⟩ := run_log _ h
      exact fin ⟨o, i, v, us, l', true⟩ rfl rfl (fun st' hs => .inl ⟨rfl, h3 st' hs, .inl hg⟩) h1
    · rename_i g want hg
      split at h
      · rename_i t ht
        split at h
        · rename_i b hb
          split at h
          · rename_i hbw
            obtain ⟨⟨v, us⟩, l', h1, h2, h3⟩ := run_log _ h
            refine fin ⟨o, i, v, us, l', true⟩ rfl rfl (fun st' hs => .inl ⟨rfl, h3 st' hs, .inr ⟨g, want, t, hg, ht, ?_⟩⟩) h1
            rw [← (hs _ (h2 (3 * t + 2) (by simp))).2.2 t rfl, hb, (by cases want <;> simpa [eqB] using hbw : b = want)]
          · rename_i hbw
            refine fin ⟨o, i, .tup [], [], [3 * t + 2], false⟩ rfl rfl (fun st' hs => .inr ⟨rfl, rfl, rfl, g, want, t, hg, ht, .inl ⟨b, ?_, by cases want <;> simp [eqB] at hbw <;> simp [hbw]⟩⟩) h
            rw [← (hs (3 * t + 2) (by simp)).2.2 t rfl, hb]
        · rename_i xs hb
          refine fin ⟨o, i, .tup [], [], [3 * t + 2], false⟩ rfl rfl (fun st' hs => .inr ⟨rfl, rfl, rfl, g, want, t, hg, ht, .inr ⟨xs, ?_⟩⟩) h
          rw [← (hs (3 * t + 2) (by simp)).2.2 t rfl, hb]
        · cases h
      · cases h
def sel (X : Nat → Bool) (Ts : List Tr) (st : St) : St := Ts.foldl (fun s T => bif X T.i then T.ap s else s) st
theorem sel_cons (X : Nat → Bool) (T : Tr) (Ts : List Tr) (st : St) : sel X (T :: Ts) st = sel X Ts (bif X T.i then T.ap st else st) := rfl
theorem sel_append (X : Nat → Bool) (A B : List Tr) (st : St) : sel X (A ++ B) st = sel X B (sel X A st) := by simp [sel]
theorem sel_all {X : Nat → Bool} : ∀ {Ts : List Tr} {st : St}, (∀ T ∈ Ts, X T.i = true) → sel X Ts st = apAll Ts st
  | [], st, _ => rfl
  | T :: Ts, st, h => by
    rw [sel_cons, h T (by simp)]
    show sel X Ts (T.ap st) = apAll Ts (T.ap st)
    exact sel_all (fun T' hT => h T' (by simp [hT]))
theorem sel_none {X : Nat → Bool} : ∀ {Ts : List Tr} {st : St}, (∀ T ∈ Ts, X T.i = false) → sel X Ts st = st
  | [], st, _ => rfl
  | T :: Ts, st, h => by
    rw [sel_cons, h T (by simp)]
    exact sel_none (fun T' hT => h T' (by simp [hT]))
theorem upd_same (u : Upd) {st st' : St} {k : Nat} (h : Same st st' k) : Same (st.upd u) (st'.upd u) k := by
  cases u with
  | ob id o =>
    refine ⟨fun i e => ?_, fun i e => h.2.1 i e, fun t e => h.2.2 t e⟩
    simp only [St.upd]
    cases Nat.beq i id
    · exact h.1 i e
    · rfl
  | wax id =>
    refine ⟨fun i e => h.1 i e, fun i e => ?_, fun t e => h.2.2 t e⟩
    simp only [St.upd]
    cases Nat.beq i id
    · exact h.2.1 i e
    · rfl
theorem upds_same : ∀ (us : List Upd) {st st' : St} {k : Nat}, Same st st' k → Same (st.upds us) (st'.upds us) k
  | [], _, _, _, h => h
  | u :: us, _, _, _, h => upds_same us (upd_same u h)
theorem set_same (d : Option Tmp) (v : AV) {st st' : St} {k : Nat} (h : Same st st' k) : Same (st.set d v) (st'.set d v) k := by
  cases d with
  | none => exact h
  | some d =>
    refine ⟨fun i e => h.1 i e, fun i e => h.2.1 i e, fun t e => ?_⟩
    simp only [St.set]
    cases Nat.beq t d
    · exact h.2.2 t e
    · rfl
theorem ap_same (T : Tr) {st st' : St} {k : Nat} (h : Same st st' k) : Same (T.ap st) (T.ap st') k := set_same _ _ (upds_same _ h)
theorem beq_ne {a b : Nat} (h : a ≠ b) : Nat.beq a b = false := by
  cases hb : Nat.beq a b with
  | false => rfl
  | true => exact (h (Nat.eq_of_beq_eq_true hb)).elim
theorem upd_out (u : Upd) {st : St} {k : Nat} (h : k ≠ u.key) : Same st (st.upd u) k := by
  cases u with
  | ob id o =>
    refine ⟨fun i e => ?_, fun i e => rfl, fun t e => rfl⟩
    have : i ≠ id := fun e' => h (by simp [Upd.key, e, e'])
    simp only [St.upd, beq_ne this, cond_false]
  | wax id =>
    refine ⟨fun i e => rfl, fun i e => ?_, fun t e => rfl⟩
    have : i ≠ id := fun e' => h (by simp [Upd.key, e, e'])
    simp only [St.upd, beq_ne this, cond_false]
theorem upds_out : ∀ (us : List Upd) {st : St} {k : Nat}, k ∉ us.map (·.key) → Same st (st.upds us) k
  | [], st, k, _ => Same.refl _ _
  | u :: us, st, k, h => by
    simp only [List.map_cons, List.mem_cons, not_or] at h
    exact (upd_out u h.1).trans (upds_out us h.2)
theorem set_out {d : Option Tmp} {v : AV} {st : St} {k : Nat} (h : ∀ t, d = some t → k ≠ 3 * t + 2) : Same st (st.set d v) k := by
  cases d with
  | none => exact Same.refl _ _
  | some d =>
    refine ⟨fun i e => rfl, fun i e => rfl, fun t e => ?_⟩
    have : t ≠ d := fun e' => h d rfl (by rw [e, e'])
    simp only [St.set, beq_ne this, cond_false]
theorem ap_out (T : Tr) {st : St} {k : Nat} (h : k ∉ T.lg.ws) : Same st (T.ap st) k := by
  unfold Tr.lg wsOf at h
  unfold Tr.ap
  cases hd : T.o.dst with
  | none => rw [hd] at h; exact upds_out _ h
  | some d =>
    rw [hd] at h
    simp only [List.mem_cons, not_or] at h
    exact (upds_out _ h.2).trans (set_out (fun t e => by cases e; exact h.1))
theorem upd_in (u : Upd) (st st' : St) {k : Nat} (h : k = u.key) : Same (st.upd u) (st'.upd u) k := by
  subst h
  cases u with
  | ob id o =>
    refine ⟨fun i e => ?_, fun i e => ?_, fun t e => ?_⟩ <;> simp only [Upd.key] at e
    · have : i = id := by omega
      subst this
      simp [St.upd]
    · omega
    · omega
  | wax id =>
    refine ⟨fun i e => ?_, fun i e => ?_, fun t e => ?_⟩ <;> simp only [Upd.key] at e
    · omega
    · have : i = id := by omega
      subst this
      simp [St.upd]
    · omega
theorem upds_in : ∀ (us : List Upd) (st st' : St) {k : Nat}, k ∈ us.map (·.key) → Same (st.upds us) (st'.upds us) k
  | u :: us, st, st', k, h => by
    by_cases hk : k = u.key
    · exact upds_same us (upd_in u st st' hk)
    · simp only [List.map_cons, List.mem_cons] at h
      exact upds_in us _ _ (h.resolve_left hk)
theorem ap_in (T : Tr) (st st' : St) {k : Nat} (h : k ∈ T.lg.ws) : Same (T.ap st) (T.ap st') k := by
  unfold Tr.lg wsOf at h
  unfold Tr.ap
  cases hd : T.o.dst with
  | none => rw [hd] at h; exact upds_in _ _ _ h
  | some d =>
    rw [hd] at h
    simp only [List.mem_cons] at h
    by_cases hk : k = 3 * d + 2
    · refine ⟨fun i e => by omega, fun i e => by omega, fun t e => ?_⟩
      have : t = d := by omega
      subst this
      simp [St.set]
    · exact set_same _ _ (upds_in _ _ _ (h.resolve_left hk))
theorem sel_same {k : Nat} {X Y : Nat → Bool} : ∀ {Ts : List Tr} {st st' : St}, Same st st' k → (∀ T ∈ Ts, X T.i ≠ Y T.i → k ∉ T.lg.ws) → Same (sel X Ts st) (sel Y Ts st') k
  | [], st, st', h, _ => h
  | T :: Ts, st, st', h, hd => by
    rw [sel_cons, sel_cons]
    refine sel_same ?_ (fun T' hT => hd T' (by simp [hT]))
    cases hx : X T.i <;> cases hy : Y T.i
    · exact h
    · exact h.trans (ap_out T (hd T (by simp) (by rw [hx, hy]; decide)))
    · exact (ap_out T (hd T (by simp) (by rw [hx, hy]; decide))).symm.trans h
    · exact ap_same T h
end Go.Den
end
section
namespace Go.Den
open Go
set_option linter.unusedSimpArgs false
set_option linter.unusedVariables false
structure On (A : Array Value) (lo : List Nat) (N : Nat) (a : Act) : Prop where
  size : a.tmps.size = N
  keep : ∀ t, t ∈ lo → a.tmps.getD t undef = A.getD t undef
  defers : a.defers = []
section
variable {P : Program} {E : Env} {w0 w w' : World} {rs : List Nat} {cs : Cs} {m m' : Gm} {cl : Nat → List Nat} {fr fr' : Nat → Prop} {st : St} {tmps : Array Value}
variable {A : Array Value} {lo : List Nat} {N : Nat} {ops : Array Oper} {Q : Exit → Act → World → Prop}
theorem put_on {a : Act} {d : Option Tmp} {u : Value} (h : On A lo N a) (hd : ∀ t, d = some t → t ∉ lo ∧ t < N) : On A lo N (a.put d u) := by
  cases d with
  | none => exact h
  | some d =>
    obtain ⟨h1, h2⟩ := hd d rfl
    refine ⟨by simp [Act.put, h.size], fun t ht => ?_, h.defers⟩
    have : d ≠ t := fun e => by subst e; exact h1 ht
    rw [← h.keep t ht]
    simp [Act.put, Array.getD_eq_getD_getElem?, Array.getElem?_setIfInBounds_ne this]
theorem Rel.put_tmp {a : Act} (R : Rel w0 rs cs m cl fr st a.tmps w) {d : Option Tmp} {u : Value} {v : AV} (hd : ∀ t, d = some t → t < a.tmps.size) (h : ∃ fs, AVR (st.mp m fr) w v u fs ∧ Froz m st w fs) :
    Rel w0 rs cs m cl fr (st.set d v) (a.put d u).tmps w := by
  cases d with
  | none => exact R
  | some d =>
    have hlt := hd d rfl
    refine R.tms rfl rfl (fun t => ?_)
    by_cases ht : t = d
    · subst ht
      have h1 : (a.put (some t) u).tmps.getD t undef = u := by simp [Act.put, Array.getD_eq_getD_getElem?, hlt]
      have h2 : (st.set (some t) v).tm t = v := by simp [St.set]
      rw [h1, h2]; exact h
    · have h1 : (a.put (some d) u).tmps.getD t undef = a.tmps.getD t undef := by simp [Act.put, Array.getD_eq_getD_getElem?, Array.getElem?_setIfInBounds_ne (Ne.symm ht)]
      have h2 : (st.set (some d) v).tm t = st.tm t := by simp [St.set, beq_ne ht]
      rw [h1, h2]; exact R.tm t
theorem getD_some {a : Array Value} {t : Nat} {v : Value} (h : a.getD t undef = v) (hne : v ≠ undef) : a[t]? = some v := by
  rw [Array.getD_eq_getD_getElem?] at h
  cases hq : a[t]? with
  | none => rw [hq] at h; exact (hne h.symm).elim
  | some x => rw [hq] at h; rw [← h]; rfl
theorem op_step (OK : EnvOK P E) {a : Act} {T : Tr} {nx : Nat} (hT : TrOk E ops nx T st) (R : Rel w0 rs cs m cl fr st a.tmps w) (hOn : On A lo N a) (hop : ops[T.i]? = some T.o)
    (hd : ∀ t, T.o.dst = some t → t ∉ lo ∧ t < N) (hfr : ∀ id, fr' id → fr id ∧ (id < nx + 64 * T.i ∨ nx + 64 * T.i + 64 ≤ id)) (hnb : ∀ id, nx + 64 * T.i ≤ id → id < nx + 64 * T.i + 64 → fr id)
    {K : Act → World → Prop} (hK : ∀ a' w' m' cl', On A lo N a' → Rel w0 rs cs m' cl' fr' (T.ap st) a'.tmps w' → K a' w') : wpOp P ops Q T.i K a w := by
  have hd' : ∀ t, T.o.dst = some t → t < a.tmps.size := fun t ht => by rw [hOn.size]; exact (hd t ht).2
  unfold wpOp
  simp only [hop]
  rcases hT with ⟨_, hA, hg⟩ | ⟨_, hv, hu, g, want, t, hg, ht, hb⟩
  · have hw : Region.wanted T.o (yielded ops a.tmps) = true := by
      unfold Region.wanted
      rcases hg with hg | ⟨g, want, t, hg, ht, hb⟩
      · rw [hg]
      · rw [hg]
        simp only [yielded, ht, Option.bind_some]
        obtain ⟨fs, h1, _⟩ := R.tm t
        rw [hb] at h1
        have h2 := (avr_lit h1).1
        rw [getD_some h2 (by intro h; cases h)]
        simp
    rw [if_pos hw]
    refine .inl ((step_ok OK R hfr hnb hA).wp (fun u w' hAft => ?_))
    obtain ⟨m', cl', R', hval⟩ := hAft
    exact hK _ _ m' cl' (put_on hOn hd) (R'.put_tmp hd' hval)
  · have hw : Region.wanted T.o (yielded ops a.tmps) = false := by
      unfold Region.wanted
      rw [hg]
      simp only [yielded, ht, Option.bind_some]
      obtain ⟨fs, h1, _⟩ := R.tm t
      rcases hb with ⟨b, hb, hbw⟩ | ⟨xs, hb⟩
      · rw [hb] at h1
        have h2 := (avr_lit h1).1
        rw [getD_some h2 (by intro h; cases h)]
        simpa using hbw
      · rw [hb] at h1
        simp only [AVR] at h1
        obtain ⟨vs, h2, _⟩ := h1
        have : ∀ b, a.tmps[t]? ≠ some (.bool b) := by
          intro b hbb
          rw [Array.getD_eq_getD_getElem?, hbb] at h2
          cases h2
        split
        · rename_i b hbb; exact (this b hbb).elim
        · rfl
    rw [hw]
    simp only [Bool.false_eq_true, if_false]
    refine hK _ _ m cl (put_on hOn hd) ?_
    have : T.ap st = st.set T.o.dst (.tup []) := by unfold Tr.ap; rw [hv, hu]; rfl
    rw [this]
    exact (R.less (fun i hi => (hfr i hi).1)).put_tmp hd' ⟨[], undef_ok, froz_nil⟩
theorem region_text (OK : EnvOK P E) {nx : Nat} (hd : ∀ (i : Nat) (o : Oper), ops[i]? = some o → ∀ t, o.dst = some t → t ∉ lo ∧ t < N) : ∀ {Ts : List Tr} {i : Nat} {st : St} {m : Gm} {cl : Nat → List Nat} {a : Act} {w : World},
    (∀ T ∈ Ts, ops[T.i]? = some T.o) → Ts.map Tr.i = List.range' i Ts.length → Trace E ops nx Ts st → Rel w0 rs cs m cl (fun id => nx + 64 * i ≤ id) st a.tmps w → On A lo N a →
    (∀ a' w' m' cl', On A lo N a' → Rel w0 rs cs m' cl' (fun id => nx + 64 * (i + Ts.length) ≤ id) (apAll Ts st) a'.tmps w' → Q .normal a' w') → wpOps P ops Q (Ts.map Tr.i) a w
  | [], i, st, m, cl, a, w, _, _, _, R, hOn, hQ => hQ a w m cl hOn R
  | T :: Ts, i, st, m, cl, a, w, hin, hi, hTr, R, hOn, hQ => by
    simp only [List.map_cons, List.length_cons, List.range'_succ, List.cons.injEq] at hi
    obtain ⟨hTi, hi⟩ := hi
    rw [List.map_cons, wpOps_cons]
    refine op_step (fr' := fun id => nx + 64 * (i + 1) ≤ id) OK (hTr.1 st (fun _ _ => Same.refl _ _)) R hOn (hin T (by simp)) (hd _ _ (hin T (by simp))) (fun id hid => ⟨by omega, by omega⟩) (fun id h1 h2 => by omega) (fun a' w' m' cl' hOn' R' => ?_)
    refine region_text OK hd (fun T' hT => hin T' (by simp [hT])) hi hTr.2 R' hOn' (fun a'' w'' m'' cl'' h1 h2 => hQ a'' w'' m'' cl'' h1 ?_)
    have : i + 1 + Ts.length = i + (T :: Ts).length := by simp; omega
    rw [this] at h2
    exact h2
end
theorem clash_spec {a b : List Nat} (h : clash a b = false) {k : Nat} (hk : k ∈ a) : k ∉ b := by
  intro hb
  have : clash a b = true := List.any_eq_true.2 ⟨k, hk, List.any_eq_true.2 ⟨k, hb, Nat.beq_refl k⟩⟩
  rw [h] at this; cases this
theorem logOk_pairs {B : List Nat} : ∀ {l : List Lg}, logOk B l = true → l.Pairwise fun y x => (B.getD y.i 0).testBit x.i = true ∨ x.apart y = true
  | [], _ => List.Pairwise.nil
  | y :: l, h => by
    simp only [logOk, Bool.and_eq_true, List.all_eq_true, Bool.or_eq_true] at h
    exact List.Pairwise.cons (fun x hx => h.1 x hx) (logOk_pairs h.2)
def befStep (acc : List Nat) (o : Oper) : Nat := o.after.toList.foldl (fun s e => bif Region.binds .any e then s ||| (2 ^ e.on ||| acc.getD e.on 0) else s) 0
theorem fold_bits {acc : List Nat} : ∀ {es : List Edge} {s j : Nat}, (es.foldl (fun s e => bif Region.binds .any e then s ||| (2 ^ e.on ||| acc.getD e.on 0) else s) s).testBit j = true →
    s.testBit j = true ∨ ∃ e ∈ es, Region.binds .any e = true ∧ (j = e.on ∨ (acc.getD e.on 0).testBit j = true)
  | [], s, j, h => .inl h
  | e :: es, s, j, h => by
    rw [List.foldl_cons] at h
    rcases fold_bits h with h | ⟨e', he', h1, h2⟩
    · cases hb : Region.binds .any e with
      | false => rw [hb] at h; exact .inl h
      | true =>
        rw [hb] at h
        simp only [cond_true, Nat.testBit_or, Bool.or_eq_true] at h
        rcases h with h | h | h
        · exact .inl h
        · rw [Nat.testBit_two_pow] at h
          exact .inr ⟨e, by simp, hb, .inl (by simpa using (of_decide_eq_true h).symm)⟩
        · exact .inr ⟨e, by simp, hb, .inr h⟩
    · exact .inr ⟨e', by simp [he'], h1, h2⟩
theorem befL_pre : ∀ (ops : List Oper) (acc : List Nat), ∃ rest, befL ops acc = acc ++ rest ∧ rest.length = ops.length
  | [], acc => ⟨[], by simp [befL], rfl⟩
  | o :: r, acc => by
    obtain ⟨rest, h1, h2⟩ := befL_pre r (acc ++ [befStep acc o])
    refine ⟨befStep acc o :: rest, ?_, by simp [h2]⟩
    show befL r (acc ++ [befStep acc o]) = _
    rw [h1]; simp
theorem befL_spec : ∀ (ops : List Oper) (acc : List Nat) (i : Nat) (o : Oper), ops[i]? = some o → (∀ e ∈ o.after.toList, Region.binds .any e = true → e.on < acc.length + i) → ∀ j, ((befL ops acc).getD (acc.length + i) 0).testBit j = true →
    ∃ e ∈ o.after.toList, Region.binds .any e = true ∧ (j = e.on ∨ ((befL ops acc).getD e.on 0).testBit j = true)
  | [], acc, i, o, h, _, _, _ => by simp at h
  | x :: r, acc, 0, o, h, he, j, hj => by
    simp only [List.getElem?_cons_zero, Option.some.injEq] at h
    subst h
    obtain ⟨rest, h1, h2⟩ := befL_pre r (acc ++ [befStep acc x])
    have hb : befL (x :: r) acc = acc ++ (befStep acc x :: rest) := by
      show befL r (acc ++ [befStep acc x]) = _
      rw [h1]; simp
    rw [hb] at hj ⊢
    have h3 : (acc ++ (befStep acc x :: rest)).getD (acc.length + 0) 0 = befStep acc x := by
      rw [List.getD_eq_getElem?_getD, List.getElem?_append_right (by omega)]; simp
    rw [h3] at hj
    rcases fold_bits hj with h | ⟨e, h4, h5, h6⟩
    · simp at h
    · refine ⟨e, h4, h5, h6.imp_right (fun h => ?_)⟩
      have := he e h4 h5
      have h7 : (acc ++ (befStep acc x :: rest)).getD e.on 0 = acc.getD e.on 0 := by
        rw [List.getD_eq_getElem?_getD, List.getElem?_append_left (by omega), ← List.getD_eq_getElem?_getD]
      rw [h7]; exact h
  | x :: r, acc, i + 1, o, h, he, j, hj => by
    have hl : (acc ++ [befStep acc x]).length + i = acc.length + (i + 1) := by simp; omega
    have := befL_spec r (acc ++ [befStep acc x]) i o (by simpa using h) (by rw [hl]; exact he) j
    rw [hl] at this
    exact this hj
end Go.Den
end
section
namespace Go.Den
open Go
set_option linter.unusedSimpArgs false
set_option linter.unusedVariables false
section
variable {P : Program} {E : Env} {w0 w w' : World} {rs : List Nat} {cs : Cs} {m m' : Gm} {cl : Nat → List Nat} {fr fr' : Nat → Prop} {st : St} {tmps : Array Value}
variable {A : Array Value} {lo : List Nat} {N : Nat} {ops : Array Oper} {Q : Exit → Act → World → Prop}
theorem Rel.same (R : Rel w0 rs cs m cl fr st tmps w) {st' : St} (h : ∀ k, Same st st' k) : Rel w0 rs cs m cl fr st' tmps w := by
  have h1 : st'.ob = st.ob := funext fun i => ((h (3 * i)).1 i rfl).symm
  have h2 : st'.pm = st.pm := funext fun i => ((h (3 * i + 1)).2.1 i rfl).symm
  have h3 : st'.tm = st.tm := funext fun i => ((h (3 * i + 2)).2.2 i rfl).symm
  exact R.tms h1 h2 (fun t => by rw [h3]; exact R.tm t)
structure Reg (E : Env) (ops : Array Oper) (nx : Nat) (lo : List Nat) (N : Nat) (Ts : List Tr) (st : St) : Prop where
  map : Ts.map (fun T => (T.o, T.i)) = ops.toList.zipIdx
  tr : Trace E ops nx Ts st
  prs : (Ts.map Tr.lg).Pairwise fun x y => ((befL ops.toList []).getD y.i 0).testBit x.i = true ∨ x.apart y = true
  ed : edgesOk ops.toList = true
  dst : ∀ (i : Nat) (o : Oper), ops[i]? = some o → ∀ t, o.dst = some t → t ∉ lo ∧ t < N
variable {nx : Nat} {Ts : List Tr}
theorem Reg.len (H : Reg E ops nx lo N Ts st) : Ts.length = ops.size := by
  have := congrArg List.length H.map
  simpa using this
theorem Reg.at (H : Reg E ops nx lo N Ts st) {i : Nat} (h : i < Ts.length) : (Ts[i]).i = i ∧ ops[i]? = some (Ts[i]).o := by
  have h1 : (Ts.map (fun T => (T.o, T.i)))[i]? = some ((Ts[i]).o, (Ts[i]).i) := by simp [h]
  rw [H.map, List.getElem?_zipIdx] at h1
  have h2 : i < ops.size := by rw [← H.len]; exact h
  have h3 : ops.toList[i]? = some ops[i] := by simp [h2]
  rw [h3] at h1
  simp only [Option.map_some, Option.some.injEq, Prod.mk.injEq] at h1
  refine ⟨by omega, ?_⟩
  rw [← h1.1]; simp [h2]
theorem Reg.split (H : Reg E ops nx lo N Ts st) {i : Nat} (h : i < Ts.length) : ∃ B C, Ts = B ++ Ts[i] :: C ∧ (∀ T ∈ B, T.i < i) ∧ (∀ T ∈ C, i < T.i) := by
  refine ⟨Ts.take i, Ts.drop (i + 1), ?_, fun T hT => ?_, fun T hT => ?_⟩
  · rw [List.getElem_cons_drop, List.take_append_drop]
  · obtain ⟨j, hj, rfl⟩ := List.getElem_of_mem hT
    simp only [List.length_take] at hj
    rw [List.getElem_take, (H.at (by omega)).1]; omega
  · obtain ⟨j, hj, rfl⟩ := List.getElem_of_mem hT
    simp only [List.length_drop] at hj
    rw [List.getElem_drop, (H.at (by omega)).1]; omega
theorem trace_at {B C : List Tr} {T : Tr} : ∀ {st : St}, Trace E ops nx (B ++ T :: C) st → ∀ st', (∀ k ∈ T.rs, Same (apAll B st) st' k) → TrOk E ops nx T st' := by
  induction B with
  | nil => intro st h; exact h.1
  | cons x B ih => intro st h; exact ih h.2
def Closed (ops : Array Oper) (X : Nat → Bool) : Prop := ∀ i, X i = true → ∀ j, ((befL ops.toList []).getD i 0).testBit j = true → X j = true
theorem Reg.apart (H : Reg E ops nx lo N Ts st) {i j : Nat} (hi : i < j) (hj : j < Ts.length) (hn : ((befL ops.toList []).getD j 0).testBit i = false) :
    ∀ k, (k ∈ (Ts[i]).lg.ws → k ∉ (Ts[j]).lg.rs ∧ k ∉ (Ts[j]).lg.ws) ∧ (k ∈ (Ts[i]).lg.rs → k ∉ (Ts[j]).lg.ws) := by
  have h := (List.pairwise_iff_getElem.1 H.prs) i j (by simp; omega) (by simpa using hj) hi
  simp only [List.getElem_map] at h
  have e1 : (Ts[i]).lg.i = i := (H.at (by omega)).1
  have e2 : (Ts[j]).lg.i = j := (H.at hj).1
  rw [e1, e2, hn] at h
  simp only [Bool.false_eq_true, false_or, Lg.apart, Bool.and_eq_true, Bool.not_eq_true'] at h
  intro k
  exact ⟨fun hk => ⟨clash_spec h.1.1 hk, clash_spec h.1.2 hk⟩, fun hk => clash_spec h.2 hk⟩
theorem Reg.ready (H : Reg E ops nx lo N Ts st) {X : Nat → Bool} (hX : Closed ops X) {i : Nat} (hi : i < Ts.length) (hXi : X i = false) (hb : ∀ j, ((befL ops.toList []).getD i 0).testBit j = true → X j = true) :
    TrOk E ops nx Ts[i] (sel X Ts st) := by
  obtain ⟨B, C, hTs, hB, hC⟩ := H.split hi
  have hTr := H.tr
  rw [hTs] at hTr
  refine trace_at hTr _ (fun k hk => ?_)
  have hYB : apAll B st = sel (fun j => decide (j < i)) Ts st := by
    conv => rhs; rw [hTs]
    rw [sel_append, sel_all (Ts := B) (fun T hT => by simp [hB T hT]), sel_none]
    intro T hT
    rcases List.mem_cons.1 hT with rfl | hT
    · simp [(H.at hi).1]
    · have := hC T hT; simp; omega
  rw [hYB]
  refine sel_same (Same.refl _ _) (fun T hT hne => ?_)
  obtain ⟨j, hj, rfl⟩ := List.getElem_of_mem hT
  rw [(H.at hj).1] at hne
  rcases Nat.lt_trichotomy j i with h | h | h
  · have hXj : X j = false := by
      cases hq : X j with
      | false => rfl
      | true => rw [hq] at hne; simp [h] at hne
    have hn : ((befL ops.toList []).getD i 0).testBit j = false := by
      cases hq : ((befL ops.toList []).getD i 0).testBit j with
      | false => rfl
      | true => rw [hb j hq] at hXj; cases hXj
    exact fun hw => ((H.apart h hi hn k).1 hw).1 hk
  · subst h
    rw [hXi] at hne; simp at hne
  · have hXj : X j = true := by
      cases hq : X j with
      | true => rfl
      | false => rw [hq] at hne; simp at hne; omega
    have hn : ((befL ops.toList []).getD j 0).testBit i = false := by
      cases hq : ((befL ops.toList []).getD j 0).testBit i with
      | false => rfl
      | true => rw [hX j hXj i hq] at hXi; cases hXi
    exact (H.apart h hj hn k).2 hk
theorem Reg.more (H : Reg E ops nx lo N Ts st) {X X' : Nat → Bool} (hX : Closed ops X) {i : Nat} (hi : i < Ts.length) (hXi : X i = false) (hX' : ∀ j, X' j = (X j || Nat.beq j i)) :
    ∀ k, Same ((Ts[i]).ap (sel X Ts st)) (sel X' Ts st) k := by
  intro k
  obtain ⟨B, C, hTs, hB, hC⟩ := H.split hi
  by_cases hk : k ∈ (Ts[i]).lg.ws
  · have e1 : sel X' Ts st = sel X' C ((Ts[i]).ap (sel X' B st)) := by
      conv => lhs; rw [hTs]
      rw [sel_append, sel_cons, (H.at hi).1, hX' i, Nat.beq_refl]
      simp
    rw [e1]
    have e2 : Same (sel (fun _ => false) C ((Ts[i]).ap (sel X' B st))) (sel X' C ((Ts[i]).ap (sel X' B st))) k := by
      refine sel_same (Same.refl _ _) (fun T hT hne => ?_)
      have hTm : T ∈ Ts := by rw [hTs]; simp [hT]
      obtain ⟨j, hj, rfl⟩ := List.getElem_of_mem hTm
      have hij := hC _ hT
      rw [(H.at hj).1] at hne hij
      have hXj : X j = true := by
        have h1 : X' j = true := by cases hq : X' j with | true => rfl | false => rw [hq] at hne; exact (hne rfl).elim
        rw [hX' j, beq_ne (by omega)] at h1
        simpa using h1
      have hn : ((befL ops.toList []).getD j 0).testBit i = false := by
        cases hq : ((befL ops.toList []).getD j 0).testBit i with
        | false => rfl
        | true => rw [hX j hXj i hq] at hXi; cases hXi
      exact ((H.apart hij hj hn k).1 hk).2
    rw [sel_none (fun _ _ => rfl)] at e2
    exact (ap_in _ _ _ hk).trans e2
  · refine (ap_out (Ts[i]) hk).symm.trans (sel_same (Same.refl _ _) (fun T hT hne => ?_))
    obtain ⟨j, hj, rfl⟩ := List.getElem_of_mem hT
    rw [(H.at hj).1, hX' j] at hne
    have : j = i := by
      by_cases h : j = i
      · exact h
      · rw [beq_ne h] at hne; simp at hne
    subst this
    exact hk
def left (n : Nat) (listed : Array Bool) : Nat := ((List.range n).filter fun i => !listed.getD i true).length
theorem left_less {n i : Nat} {listed : Array Bool} (hi : i < n) (hs : listed.size = n) (h : listed.getD i true = false) : left n (listed.setIfInBounds i true) + 1 = left n listed := by
  unfold left
  have h1 : ((List.range n).filter fun j => !(listed.setIfInBounds i true).getD j true) = ((List.range n).filter fun j => !listed.getD j true).erase i := by
    rw [List.Nodup.erase_eq_filter (List.nodup_range.sublist List.filter_sublist), List.filter_filter]
    congr 1
    funext j
    by_cases hj : j = i
    · subst hj
      simp [Array.getD_eq_getD_getElem?, hs, hi]
    · rw [getD_set_ne true (Ne.symm hj)]
      have : (j != i) = true := by simpa using hj
      rw [this]; simp
  rw [h1, List.length_erase_of_mem (List.mem_filter.2 ⟨List.mem_range.2 hi, by simp [h]⟩)]
  have : 0 < ((List.range n).filter fun j => !listed.getD j true).length := List.length_pos_of_mem (List.mem_filter.2 ⟨List.mem_range.2 hi, by simp [h]⟩)
  omega
theorem left_none {n : Nat} {listed : Array Bool} (h : left n listed = 0) : ∀ i, i < n → listed.getD i true = true := by
  intro i hi
  cases hq : listed.getD i true with
  | true => rfl
  | false =>
    have : 0 < left n listed := List.length_pos_of_mem (List.mem_filter.2 ⟨List.mem_range.2 hi, by simp [hq]⟩)
    omega
theorem getD_tf {a : Array Bool} {i : Nat} (h : i < a.size) : a.getD i true = a.getD i false := by simp [Array.getD_eq_getD_getElem?, h]
def frX (nx : Nat) (X : Nat → Bool) (id : Nat) : Prop := nx ≤ id ∧ ∀ i, X i = true → ¬ (nx + 64 * i ≤ id ∧ id < nx + 64 * i + 64)
theorem region_any (OK : EnvOK P E) (H : Reg E ops nx lo N Ts st)
    (hQ : ∀ a w m cl, On A lo N a → Rel w0 rs cs m cl (fun id => nx + 64 * ops.size ≤ id) (apAll Ts st) a.tmps w → Q .normal a w) :
    ∀ (fuel : Nat) (listed : Array Bool) (a : Act) (w : World) (m : Gm) (cl : Nat → List Nat), listed.size = ops.size → left ops.size listed ≤ fuel → Closed ops (fun i => listed.getD i false) →
      On A lo N a → Rel w0 rs cs m cl (frX nx fun i => listed.getD i false) (sel (fun i => listed.getD i false) Ts st) a.tmps w → wpAny P .any ops Q fuel listed a w := by
  have hdone : ∀ (listed : Array Bool) (a : Act) (w : World) (m : Gm) (cl : Nat → List Nat), listed.size = ops.size → (∀ i, i < ops.size → listed.getD i true = true) → On A lo N a →
      Rel w0 rs cs m cl (frX nx fun i => listed.getD i false) (sel (fun i => listed.getD i false) Ts st) a.tmps w → Q .normal a w := by
    intro listed a w m cl hs hall hOn R
    have hin : ∀ i, listed.getD i false = true → i < ops.size := by
      intro i hi
      by_cases h : i < ops.size
      · exact h
      · simp [Array.getD_eq_getD_getElem?, Array.getElem?_eq_none (show listed.size ≤ i by omega)] at hi
    rw [sel_all (fun T hT => by
      obtain ⟨j, hj, rfl⟩ := List.getElem_of_mem hT
      rw [(H.at hj).1]
      have hj' : j < ops.size := by rw [← H.len]; exact hj
      show listed.getD j false = true
      rw [← getD_tf (by omega)]; exact hall j hj')] at R
    refine hQ a w m cl hOn (R.less (fun id hid => ⟨by omega, fun i hi => ?_⟩))
    have := hin i hi
    omega
  intro fuel
  induction fuel with
  | zero =>
    intro listed a w m cl hs hl hc hOn R
    have hall := left_none (Nat.le_zero.1 hl)
    refine ⟨?_, hdone listed a w m cl hs hall hOn R⟩
    cases hr : Region.ready .any ops listed with
    | nil => rfl
    | cons j r =>
      have hj : j ∈ Region.ready .any ops listed := by rw [hr]; simp
      obtain ⟨h1, o, h2, _⟩ := mem_ready.1 hj
      have hlt : j < ops.size := (Array.getElem?_eq_some_iff.1 h2).1
      rw [hall j hlt] at h1
      cases h1
  | succ fuel ih =>
    intro listed a w m cl hs hl hc hOn R
    refine ⟨fun hr => ?_, fun i hi => ?_⟩
    · refine hdone listed a w m cl hs (fun i => ?_) hOn R
      -- the first that is not done would be ready
      induction i using Nat.strongRecOn with
      | _ i ihi =>
        intro hi
        cases hq : listed.getD i true with
        | true => rfl
        | false =>
          exfalso
          have h2 : ops[i]? = some ops[i] := by simp [hi]
          have : i ∈ Region.ready .any ops listed := by
            refine mem_ready.2 ⟨hq, ops[i], h2, fun e he hbb => ?_⟩
            have hed := List.all_eq_true.1 H.ed (ops[i], i) (by
              refine List.mem_iff_getElem?.2 ⟨i, ?_⟩
              rw [List.getElem?_zipIdx]
              simp [hi])
            have he2 := List.all_eq_true.1 hed e (Array.mem_toList_iff.2 he)
            have hlt : e.on < i := by rw [hbb] at he2; simp [Nat.blt] at he2; omega
            rw [← getD_tf (by omega)]
            exact ihi e.on hlt (by omega)
          rw [hr] at this
          cases this
    · obtain ⟨h1, o, h2, h3⟩ := mem_ready.1 hi
      have hlt : i < ops.size := (Array.getElem?_eq_some_iff.1 h2).1
      have hlt' : i < Ts.length := by rw [H.len]; exact hlt
      have hXi : listed.getD i false = false := by rw [← getD_tf (by omega)]; exact h1
      have hed := List.all_eq_true.1 H.ed (ops[i], i) (by
        refine List.mem_iff_getElem?.2 ⟨i, ?_⟩
        rw [List.getElem?_zipIdx]
        simp [hlt])
      have hoi : o = ops[i] := by
        have : ops[i]? = some ops[i] := by simp [hlt]
        rw [this] at h2; exact (Option.some.inj h2).symm
      have hbef : ∀ j, ((befL ops.toList []).getD i 0).testBit j = true → listed.getD j false = true := by
        intro j hj
        obtain ⟨e, he, hb, hj2⟩ := befL_spec ops.toList [] i ops[i] (by simp [hlt]) (fun e he hbb => by
          have he2 := List.all_eq_true.1 hed e he
          rw [hbb] at he2
          simp [Nat.blt] at he2; simp; omega) j (by simpa using hj)
        have hon := h3 e (by rw [hoi]; exact Array.mem_toList_iff.1 he) hb
        rcases hj2 with rfl | hj2
        · exact hon
        · exact hc e.on hon j hj2
      have hT := H.ready hc hlt' hXi hbef
      have hX' : ∀ j, (listed.setIfInBounds i true).getD j false = (listed.getD j false || Nat.beq j i) := by
        intro j
        by_cases hj : j = i
        · subst hj
          rw [Nat.beq_refl]
          simp [Array.getD_eq_getD_getElem?, hs, hlt]
        · rw [getD_set_ne false (Ne.symm hj), beq_ne hj]; simp
      have hTi := (H.at hlt').1
      have hstep := op_step (Q := Q) (fr' := frX nx fun j => (listed.setIfInBounds i true).getD j false) (K := wpAny P .any ops Q fuel (listed.setIfInBounds i true)) OK hT R hOn (by rw [hTi]; exact (H.at hlt').2)
        (H.dst i _ (H.at hlt').2) (fun id hid => ?_) (fun id q1 q2 => ?_) (fun a' w' m' cl' hOn' R' => ?_)
      · rw [hTi] at hstep; exact hstep
      · refine ⟨⟨hid.1, fun j hj => hid.2 j (by show (listed.setIfInBounds i true).getD j false = true; have h9 : listed.getD j false = true := hj; rw [hX' j, h9]; rfl)⟩, ?_⟩
        have := hid.2 i (by show (listed.setIfInBounds i true).getD i false = true; rw [hX' i, Nat.beq_refl]; simp)
        rw [hTi]
        omega
      · rw [hTi] at q1 q2
        refine ⟨by omega, fun j hj => ?_⟩
        have : j ≠ i := fun e => by subst e; rw [show (fun i => listed.getD i false) j = listed.getD j false from rfl, hXi] at hj; cases hj
        omega
      · refine ih (listed.setIfInBounds i true) a' w' m' cl' (by simpa using hs) ?_ ?_ hOn' ?_
        · have := left_less hlt hs h1
          omega
        · intro j hj j' hj'
          replace hj : (listed.setIfInBounds i true).getD j false = true := hj
          show (listed.setIfInBounds i true).getD j' false = true
          rw [hX' j] at hj
          rw [hX' j']
          by_cases hji : j = i
          · subst hji; rw [hbef j' hj']; rfl
          · rw [beq_ne hji] at hj
            have h9 : listed.getD j' false = true := hc j (by simpa using hj) j' hj'
            rw [h9]; rfl
        · exact R'.same (H.more hc hlt' hXi hX')
end
end Go.Den
end
section
namespace Go.Den
open Go
set_option linter.unusedSimpArgs false
set_option linter.unusedVariables false
section
variable {P : Program} {E : Env} {w0 w w' : World} {rs : List Nat} {cs : Cs} {m m' : Gm} {cl : Nat → List Nat} {fr fr' : Nat → Prop} {st : St} {tmps : Array Value}
theorem place_at : ∀ {ids : List Nat} {id n : Nat}, place ids id = some n → ids[n]? = some id
  | x :: r, id, n, h => by
    unfold place at h
    cases hb : Nat.beq x id with
    | true =>
      rw [hb] at h
      simp only [cond_true, Option.some.injEq] at h
      subst h
      simp [Nat.eq_of_beq_eq_true hb]
    | false =>
      rw [hb] at h
      simp only [cond_false] at h
      split at h
      · rename_i k hk
        simp only [Option.some.injEq] at h
        subst h
        simpa using place_at hk
      · cases h
def renM (m : Gm) (ids : List Nat) : Gm := ⟨fun n => match ids[n]? with | some id => m id | none => none, m.bad⟩
def renC (cl : Nat → List Nat) (ids : List Nat) : Nat → List Nat := fun n => match ids[n]? with | some id => cl id | none => []
theorem renM_at {ids : List Nat} {n id : Nat} (h : ids[n]? = some id) : (renM m ids) n = m id := by simp [renM, h]
theorem renC_at {ids : List Nat} {n id : Nat} (h : ids[n]? = some id) : renC cl ids n = cl id := by simp [renC, h]
theorem ren_ob {live : List (Nat × Nat)} {ids : List Nat} {n : Nat} {o' : AObj} (h : (st.ren live ids).ob n = some o') : ∃ id o, ids[n]? = some id ∧ st.ob id = some o ∧ renO ids o = some o' := by
  simp only [St.ren] at h
  split at h
  · rename_i id hid
    split at h
    · rename_i o ho
      exact ⟨id, o, hid, ho, h⟩
    · cases h
  · cases h
theorem ren_pm {live : List (Nat × Nat)} {ids : List Nat} {n id : Nat} (h : ids[n]? = some id) : (st.ren live ids).pm n = st.pm id := by simp [St.ren, h]
theorem renO_arr {ids : List Nat} {o : AObj} {k : Nat} {d : Bool} {els : List (List RD)} (h : renO ids o = some (.arr k d els)) : o = .arr k d els := by
  cases o with
  | box ty cells => simp only [renO] at h; split at h <;> cases h
  | arr => simp only [renO, Option.some.injEq] at h; exact h
  | map => simp [renO] at h
theorem renO_map {ids : List Nat} {o : AObj} {es : List (Int × Value)} (h : renO ids o = some (.map es)) : o = .map es := by
  cases o with
  | box ty cells => simp only [renO] at h; split at h <;> cases h
  | arr => simp [renO] at h
  | map => simp only [renO, Option.some.injEq] at h; exact h
theorem renO_box {ids : List Nat} {o : AObj} {ty : Nat} {cs : List AV} (h : renO ids o = some (.box ty cs)) : ∃ cells, o = .box ty cells ∧ cs = rens ids cells ∧ (rens ids cells).all isCell = true := by
  cases o with
  | box ty0 cells =>
    simp only [renO] at h
    split at h
    · rename_i hc; cases h; exact ⟨cells, rfl, rfl, hc⟩
    · cases h
  | arr => simp [renO] at h
  | map => simp [renO] at h
mutual
theorem AVR_ren {live : List (Nat × Nat)} {ids : List Nat} : ∀ {x : AV} {v : Value} {fs : List Nat}, AVR (st.mp m fr) w x v fs →
    ∃ gs, AVR ((st.ren live ids).mp (renM m ids) (fun n => ids.length ≤ n)) w (ren ids x) v gs ∧ ∀ b ∈ gs, b ∈ fs
  | .rd d, v, fs, h => ⟨fs, by simpa only [AVR, ren] using h, fun _ h => h⟩
  | .nil, v, fs, h => ⟨fs, by simpa only [AVR, ren] using h, fun _ h => h⟩
  | .bad, v, fs, h => ⟨fs, by simpa only [AVR, ren] using h, fun _ h => h⟩
  | .aref id t, v, fs, h => by
    simp only [ren]
    split
    · rename_i n hn
      have hat := place_at hn
      simp only [AVR] at h ⊢
      refine ⟨[], ⟨⟨rfl, h.1.2⟩, ?_, fun k d els ho => ?_⟩, by simp⟩
      · have := (List.getElem?_eq_some_iff.1 hat).1
        show ¬ ids.length ≤ n
        omega
      · obtain ⟨id', o, h1, h2, h3⟩ := ren_ob (live := live) ho
        rw [hat] at h1; cases h1
        rw [renO_arr h3] at h2
        obtain ⟨A, c, e1, e2, e3, e4⟩ := h.2.2 _ _ _ h2
        refine ⟨A, c, e1, e2, e3, e4.imp_right ?_⟩
        rintro ⟨b, f1, f2, f3⟩
        exact ⟨b, (renM_at hat).trans f1, f2, f3⟩
    · exact ⟨[], rfl, by simp⟩
  | .sref id off n t, v, fs, h => by
    simp only [ren]
    split
    · rename_i p hn
      have hat := place_at hn
      simp only [AVR] at h ⊢
      refine ⟨[], ⟨⟨rfl, h.1.2⟩, ?_, fun k d els ho => ?_⟩, by simp⟩
      · have := (List.getElem?_eq_some_iff.1 hat).1
        show ¬ ids.length ≤ p
        omega
      · obtain ⟨id', o, h1, h2, h3⟩ := ren_ob (live := live) ho
        rw [hat] at h1; cases h1
        rw [renO_arr h3] at h2
        obtain ⟨h4, A, c, e1, e2, e3, e4⟩ := h.2.2 _ _ _ h2
        refine ⟨h4, A, c, e1, e2, e3, e4.imp_right ?_⟩
        rintro ⟨b, f1, f2, f3⟩
        exact ⟨b, (renM_at hat).trans f1, f2, f3⟩
    · exact ⟨[], rfl, by simp⟩
  | .bref id j, v, fs, h => by
    simp only [ren]
    split
    · rename_i p hn
      have hat := place_at hn
      simp only [AVR] at h ⊢
      refine ⟨[], ⟨⟨rfl, h.1.2⟩, ?_, fun ty cells ho => ?_⟩, by simp⟩
      · have := (List.getElem?_eq_some_iff.1 hat).1
        show ¬ ids.length ≤ p
        omega
      · obtain ⟨id', o, h1, h2, h3⟩ := ren_ob (live := live) ho
        rw [hat] at h1; cases h1
        obtain ⟨c0, h4, _, _⟩ := renO_box h3
        rw [h4] at h2
        obtain ⟨b, e1, e2⟩ := h.2.2 _ _ h2
        exact ⟨b, (renM_at hat).trans e1, e2⟩
    · exact ⟨[], rfl, by simp⟩
  | .eref id i j, v, fs, h => by
    simp only [ren]
    split
    · rename_i p hn
      have hat := place_at hn
      simp only [AVR] at h ⊢
      refine ⟨[], ⟨⟨rfl, h.1.2⟩, ?_, fun k d els ho => ?_⟩, by simp⟩
      · have := (List.getElem?_eq_some_iff.1 hat).1
        show ¬ ids.length ≤ p
        omega
      · obtain ⟨id', o, h1, h2, h3⟩ := ren_ob (live := live) ho
        rw [hat] at h1; cases h1
        rw [renO_arr h3] at h2
        obtain ⟨b, e1, e2⟩ := h.2.2 _ _ _ h2
        exact ⟨b, (renM_at hat).trans e1, e2⟩
    · exact ⟨[], rfl, by simp⟩
  | .mref id, v, fs, h => by
    simp only [ren]
    split
    · rename_i p hn
      have hat := place_at hn
      simp only [AVR] at h ⊢
      refine ⟨[], ⟨⟨rfl, h.1.2⟩, ?_, fun es ho => ?_⟩, by simp⟩
      · have := (List.getElem?_eq_some_iff.1 hat).1
        show ¬ ids.length ≤ p
        omega
      · obtain ⟨id', o, h1, h2, h3⟩ := ren_ob (live := live) ho
        rw [hat] at h1; cases h1
        rw [renO_map h3] at h2
        obtain ⟨b, e1, e2⟩ := h.2.2 _ h2
        exact ⟨b, (renM_at hat).trans e1, e2⟩
    · exact ⟨[], rfl, by simp⟩
  | .fnv g xs, v, fs, h => by
    simp only [AVR, ren] at h ⊢
    obtain ⟨vs, h1, h2⟩ := h
    obtain ⟨gs, h3, h4⟩ := AVL_ren (live := live) (ids := ids) h2
    exact ⟨gs, ⟨vs, h1, h3⟩, h4⟩
  | .agg xs, v, fs, h => by
    simp only [AVR] at h
    obtain ⟨vs, h1, h2, _⟩ := h
    obtain ⟨gs, h3, h4⟩ := AVL_ren (live := live) (ids := ids) h2
    simp only [ren]
    split
    · rename_i hc
      simp only [AVR]
      exact ⟨gs, ⟨vs, h1, h3, hc⟩, h4⟩
    · exact ⟨[], rfl, by simp⟩
  | .tup xs, v, fs, h => by
    simp only [AVR, ren] at h ⊢
    obtain ⟨vs, h1, h2⟩ := h
    obtain ⟨gs, h3, h4⟩ := AVL_ren (live := live) (ids := ids) h2
    exact ⟨gs, ⟨vs, h1, h3⟩, h4⟩
theorem AVL_ren {live : List (Nat × Nat)} {ids : List Nat} : ∀ {xs : List AV} {vs : List Value} {fs : List Nat}, AVL (st.mp m fr) w xs vs fs →
    ∃ gs, AVL ((st.ren live ids).mp (renM m ids) (fun n => ids.length ≤ n)) w (rens ids xs) vs gs ∧ ∀ b ∈ gs, b ∈ fs
  | [], vs, fs, h => ⟨fs, by simpa only [AVL, rens] using h, fun _ h => h⟩
  | x :: xs, vs, fs, h => by
    simp only [AVL] at h
    obtain ⟨v, us, f, g, rfl, h1, h2, rfl⟩ := h
    obtain ⟨f', h3, h4⟩ := AVR_ren (live := live) (ids := ids) h1
    obtain ⟨g', h5, h6⟩ := AVL_ren (live := live) (ids := ids) h2
    refine ⟨f' ++ g', ?_, fun b hb => ?_⟩
    · simp only [AVL, rens]; exact ⟨v, us, f', g', rfl, h3, h5, rfl⟩
    · exact (List.mem_append.1 hb).elim (fun h => List.mem_append_left _ (h4 b h)) (fun h => List.mem_append_right _ (h6 b h))
end
theorem pickTm_or {ids : List Nat} : ∀ {live : List (Nat × Nat)} {t : Nat}, pickTm ids st live t = .bad ∨ pickTm ids st live t = ren ids (st.tm t)
  | [], t => .inl rfl
  | (x, ty) :: r, t => by
    unfold pickTm
    cases hb : Nat.beq t x with
    | true => rw [Nat.eq_of_beq_eq_true hb]; exact .inr rfl
    | false => exact pickTm_or
theorem Rel.ren (R : Rel w0 rs cs m cl fr st tmps w) {live : List (Nat × Nat)} {ids : List Nat} (hn : ids.Nodup) :
    Rel w0 rs cs (renM m ids) (renC cl ids) (fun n => ids.length ≤ n) (st.ren live ids) tmps w := by
  have hF : ∀ {fs gs : List Nat}, Froz m st w fs → (∀ b ∈ gs, b ∈ fs) → Froz (renM m ids) (st.ren live ids) w gs := by
    intro fs gs h hs b hb
    obtain ⟨h1, h2⟩ := h b (hs b hb)
    refine ⟨h1, fun n hl hp hm => ?_⟩
    obtain ⟨o', ho'⟩ := Option.ne_none_iff_exists'.1 hl
    obtain ⟨id, o, q1, q2, q3⟩ := ren_ob (live := live) ho'
    rw [ren_pm q1] at hp
    rw [renM_at q1] at hm
    exact h2 id (by simp [q2]) hp hm
  have same : ∀ {n n' id : Nat}, ids[n]? = some id → ids[n']? = some id → n = n' := by
    intro n n' id h1 h2
    obtain ⟨l1, e1⟩ := List.getElem?_eq_some_iff.1 h1
    obtain ⟨l2, e2⟩ := List.getElem?_eq_some_iff.1 h2
    rcases Nat.lt_trichotomy n n' with h | h | h
    · exact ((List.pairwise_iff_getElem.1 hn) n n' l1 l2 h (e1.trans e2.symm)).elim
    · exact h
    · exact ((List.pairwise_iff_getElem.1 hn) n' n l2 l1 h (e2.trans e1.symm)).elim
  have hdeep : ∀ {o o' : AObj}, renO ids o = some o' → deepO o' = true → deepO o = true ∧ o = o' := by
    intro o o' h hd
    cases o' with
    | box => cases hd
    | arr k d els => rw [renO_arr h]; exact ⟨hd, rfl⟩
    | map => cases hd
  constructor
  · exact R.fram
  · intro t
    obtain ⟨fs, h1, h2⟩ := R.tm t
    rcases pickTm_or (st := st) (ids := ids) (live := live) (t := t) with h | h
    · exact ⟨[], by simp only [St.ren]; rw [h]; simp only [AVR], froz_nil⟩
    · obtain ⟨gs, h3, h4⟩ := AVR_ren (live := live) (ids := ids) h1
      exact ⟨gs, by simp only [St.ren] at h3 ⊢; rw [h]; exact h3, hF h2 h4⟩
  · intro n o' ho'
    obtain ⟨id, o, q1, q2, q3⟩ := ren_ob (live := live) ho'
    obtain ⟨fs, h1, h2, h3⟩ := R.ob id o q2
    cases o' with
    | box ty cells' =>
      obtain ⟨cells, rfl, rfl, hc⟩ := renO_box q3
      obtain ⟨b, a, e, p1, p2, p3, p4⟩ := h1
      obtain ⟨gs, p5, p6⟩ := AVL_ren (live := live) (ids := ids) p3
      exact ⟨gs, ⟨b, a, e, (renM_at q1).trans p1, p2, p5, hc⟩, hF h2 p6, fun hd => by cases hd⟩
    | arr k d els =>
      have := renO_arr q3
      subst this
      refine ⟨fs, ?_, hF h2 (fun _ h => h), fun hd hp => ?_⟩
      · rcases h1 with ⟨p1, p2, p3⟩ | ⟨b, a, e, p1, p2, p3, p4⟩
        · exact .inl ⟨p1, (renM_at q1).trans p2, p3⟩
        · exact .inr ⟨b, a, e, (renM_at q1).trans p1, p2, p3, p4⟩
      · rw [ren_pm q1] at hp
        rw [renC_at q1]; exact h3 hd hp
    | map es =>
      have := renO_map q3
      subst this
      obtain ⟨p0, b, es', c, p1, p2, p3, p4⟩ := h1
      exact ⟨fs, ⟨p0, b, es', c, (renM_at q1).trans p1, p2, p3, p4⟩, hF h2 (fun _ h => h), fun hd => by cases hd⟩
  · intro n n' b h1 h2 h3 h4
    obtain ⟨o1, ho1⟩ := Option.ne_none_iff_exists'.1 h1
    obtain ⟨o2, ho2⟩ := Option.ne_none_iff_exists'.1 h2
    obtain ⟨id, o, q1, q2, q3⟩ := ren_ob (live := live) ho1
    obtain ⟨id', o', q1', q2', q3'⟩ := ren_ob (live := live) ho2
    rw [renM_at q1] at h3
    rw [renM_at q1'] at h4
    have := R.inj id id' b (by simp [q2]) (by simp [q2']) h3 h4
    subst this
    exact same q1 q1'
  · intro n b h1 h2
    obtain ⟨o1, ho1⟩ := Option.ne_none_iff_exists'.1 h1
    obtain ⟨id, o, q1, q2, q3⟩ := ren_ob (live := live) ho1
    rw [renM_at q1] at h2
    exact R.mine id b (by simp [q2]) h2
  · intro n o' h1 h2 h3
    obtain ⟨id, o, q1, q2, q3⟩ := ren_ob (live := live) h1
    obtain ⟨hd, rfl⟩ := hdeep q3 h2
    rw [ren_pm q1] at h3
    rw [renC_at q1]
    exact R.cl1 id _ q2 hd h3
  · intro n n' o1 o2 h1 h2 h3 h4 h5 h6 hne
    obtain ⟨id, o, q1, q2, q3⟩ := ren_ob (live := live) h1
    obtain ⟨id', o', q1', q2', q3'⟩ := ren_ob (live := live) h2
    obtain ⟨hd, rfl⟩ := hdeep q3 h3
    obtain ⟨hd', rfl⟩ := hdeep q3' h4
    rw [ren_pm q1] at h5
    rw [ren_pm q1'] at h6
    rw [renC_at q1, renC_at q1']
    exact R.cl2 id id' _ _ q2 q2' hd hd' h5 h6 (fun e => hne (by subst e; exact same q1 q1'))
  · intro n hf
    have : ids[n]? = none := List.getElem?_eq_none hf
    simp [St.ren, this]
  · exact R.bad
  · exact R.badEq
theorem nilFix_ok : ∀ {live : List (Nat × Nat)} {st st' : St} {m : Gm} {cl : Nat → List Nat}, nilFix E live st = some st' → Rel w0 rs cs m cl (fun id => st.nx ≤ id) st tmps w →
    ∃ m' cl', Rel w0 rs cs m' cl' (fun id => st'.nx ≤ id) st' tmps w
  | [], st, st', m, cl, h, R => by
    simp only [nilFix, Option.some.injEq] at h
    subst h
    exact ⟨m, cl, R⟩
  | (t, ty) :: r, st, st', m, cl, h, R => by
    unfold nilFix at h
    split at h
    · rename_i hnil
      split at h
      · rename_i e k eb hk
        have R1 := R.madeNil (id := st.nx) (Nat.le_refl _) k
        have X1 := ext_made R (Nat.le_refl st.nx) (some (.arr k true [])) none (Chg.refl _ w) (fun b h => by cases h)
        have R2 : Rel w0 rs cs (setM m st.nx none) (setC cl st.nx []) (lessF (fun id => st.nx ≤ id) st.nx) { st with tm := fun x => bif Nat.beq x t then .aref st.nx true else st.tm x, ob := fun x => bif Nat.beq x st.nx then some (.arr k true []) else st.ob x, nx := st.nx + 1 } tmps w := by
          refine R1.tms rfl rfl (fun t' => ?_)
          obtain ⟨fs, h1, h2⟩ := R.tm t'
          by_cases ht : t' = t
          · subst ht
            rw [hnil] at h1
            simp only [AVR] at h1
            refine ⟨[], ?_, froz_nil⟩
            simp only [Nat.beq_refl, cond_true, AVR]
            rw [h1.1]
            refine ⟨⟨trivial, rfl⟩, fun h => h.2 rfl, fun k' d' els' ho => ?_⟩
            simp only [St.mp, upd_ob_same] at ho
            cases ho
            exact ⟨none, 0, rfl, Nat.le_refl _, fun _ => rfl, .inl ⟨rfl, rfl⟩⟩
          · refine ⟨fs, ?_, X1.froz h2⟩
            simp only [beq_ne ht, cond_false]
            exact X1.avr h1 h2
        exact nilFix_ok h (R2.less (fun id hid => ⟨Nat.le_of_succ_le hid, fun e => by subst e; exact Nat.lt_irrefl _ hid⟩))
      · cases h
    · exact nilFix_ok h R
theorem pickAt_ren {ids : List Nat} : ∀ (live : List (Nat × Nat)) (t : Nat), pickAt live (live.map fun x => Go.Den.ren ids (st.tm x.1)) t = pickTm ids st live t
  | [], _ => rfl
  | (x, _) :: r, t => by
    simp only [List.map_cons, pickAt, pickTm]
    rw [pickAt_ren r t]
theorem obAt_map {f : Nat → OB} : ∀ (ids : List Nat) (n : Nat), obAt (ids.map f) n = match ids[n]? with | some id => f id | none => (none, false)
  | [], n => by simp [obAt]
  | x :: r, 0 => by simp [obAt]
  | x :: r, n + 1 => by simp only [List.map_cons, obAt, List.getElem?_cons_succ]; exact obAt_map r n
theorem mkSt_ren {live : Live} {ids : List Nat} : mkSt live (live.ts.map fun x => Go.Den.ren ids (st.tm x.1)) (ids.map fun id => (obRen ids (st.ob id), st.pm id)) = st.ren live.ts ids := by
  unfold mkSt St.ren
  congr 1
  · funext t; exact pickAt_ren live.ts t
  · funext n
    rw [obAt_map]
    cases ids[n]? <;> rfl
  · funext n
    rw [obAt_map]
    cases ids[n]? <;> rfl
  · simp
theorem Rel.lower (R : Rel w0 rs cs m cl fr st tmps w) {st' : St} (htm : st'.tm = st.tm) (hpm : st'.pm = st.pm)
    (hob : ∀ id, st'.ob id = st.ob id ∨ ∃ k d els, st.ob id = some (.arr k d els) ∧ st'.ob id = some (.arr k false els)) : Rel w0 rs cs m cl fr st' tmps w := by
  have hl : ∀ i, st'.ob i ≠ none → st.ob i ≠ none := by
    intro i h
    rcases hob i with e | ⟨k, d, els, e, _⟩
    · rwa [e] at h
    · simp [e]
  have G : (st.mp m fr).Goes (st'.mp m fr) w w := by
    refine ⟨fun _ h => h, fun i o' _ ho => ?_, fun _ _ _ _ _ _ => Nat.le_refl _, rfl⟩
    have ho : st'.ob i = some o' := ho
    rcases hob i with e | ⟨k, d, els, e, e'⟩
    · rw [e] at ho; exact ⟨o', ho, shape_refl o', rfl⟩
    · rw [e'] at ho; cases ho
      exact ⟨_, e, ⟨rfl, rfl⟩, rfl⟩
  have deep : ∀ i o, st'.ob i = some o → deepO o = true → st.ob i = some o := by
    intro i o ho hd
    rcases hob i with e | ⟨k, d, els, _, e'⟩
    · rwa [e] at ho
    · rw [e'] at ho; cases ho; cases hd
  have hFz : ∀ fs, Froz m st w fs → Froz m st' w fs := fun fs h b hb => ⟨(h b hb).1, fun id hn hp => (h b hb).2 id (hl id hn) (by rw [← hpm]; exact hp)⟩
  refine R.turn (S := fun _ => False) htm (Chg.refl _ _) (fun b h => h.elim) G (fun i _ _ h => by rw [← hpm]; exact h) (fun i b hf hli _ => (hl i hli (R.fr i hf).1).elim)
    (fun i o ho => ?_) (fun i i' b h1 h2 => R.inj i i' b (hl i h1) (hl i' h2)) (fun i b h => R.mine i b (hl i h))
    (fun i o ho hd hp => R.cl1 i o (deep i o ho hd) hd (by rw [← hpm]; exact hp)) (fun i i' o o' h1 h2 h3 h4 h5 h6 => R.cl2 i i' o o' (deep i o h1 h3) (deep i' o' h2 h4) h3 h4 (by rw [← hpm]; exact h5) (by rw [← hpm]; exact h6)) (fun i hf => ?_)
  · rcases hob i with e | ⟨k, d, els, e, e'⟩
    · rw [e] at ho
      exact .inl ⟨ho, fun hf => (by have := (R.fr i hf).1; rw [ho] at this; cases this), fun _ _ h => h, fun _ _ => rfl⟩
    · rw [e'] at ho; cases ho
      obtain ⟨fs, h1, h2, _⟩ := R.ob i _ e
      refine .inr ⟨fs, ?_, hFz fs h2, fun hd => by cases hd⟩
      simp only [OBR] at h1 ⊢
      exact h1
  · obtain ⟨h1, h2⟩ := R.fr i hf
    refine ⟨?_, by rw [hpm]; exact h2⟩
    rcases hob i with e | ⟨k, d, els, e, _⟩
    · rw [e]; exact h1
    · rw [h1] at e; cases e
theorem fz_arr {id i k : Nat} {d : Bool} {els e : List (List RD)} (h : (st.freeze id els).ob i = some (.arr k d e)) : i ≠ id ∧ st.ob i = some (.arr k d e) := by
  simp only [St.freeze] at h
  cases hb : Nat.beq i id with
  | true => rw [hb] at h; cases h
  | false =>
    rw [hb] at h
    refine ⟨fun hh => (by subst hh; rw [Nat.beq_refl] at hb; cases hb), ?_⟩
    simp only [cond_false, fzO] at h
    split at h
    · cases h
    · exact h
theorem fz_map {id i : Nat} {els : List (List RD)} {e : List (Int × Value)} (h : (st.freeze id els).ob i = some (.map e)) : i ≠ id ∧ st.ob i = some (.map e) := by
  simp only [St.freeze] at h
  cases hb : Nat.beq i id with
  | true => rw [hb] at h; cases h
  | false =>
    rw [hb] at h
    refine ⟨fun hh => (by subst hh; rw [Nat.beq_refl] at hb; cases hb), ?_⟩
    simp only [cond_false, fzO] at h
    split at h
    · cases h
    · exact h
theorem fz_box {id i ty : Nat} {els : List (List RD)} {c : List AV} (h : (st.freeze id els).ob i = some (.box ty c)) : i ≠ id ∧ ∃ c0, st.ob i = some (.box ty c0) ∧ c = fzs id els c0 := by
  simp only [St.freeze] at h
  cases hb : Nat.beq i id with
  | true => rw [hb] at h; cases h
  | false =>
    rw [hb] at h
    refine ⟨fun hh => (by subst hh; rw [Nat.beq_refl] at hb; cases hb), ?_⟩
    simp only [cond_false, fzO] at h
    split at h
    · rename_i c0 ho; cases h; exact ⟨c0, ho, rfl⟩
    · rename_i hne; exact (hne _ _ h).elim
theorem fz_live {id i : Nat} {els : List (List RD)} (h : (st.freeze id els).ob i ≠ none) : i ≠ id ∧ st.ob i ≠ none := by
  obtain ⟨o, ho⟩ := Option.ne_none_iff_exists'.1 h
  cases o with
  | box ty c => obtain ⟨h1, c0, h2, _⟩ := fz_box ho; exact ⟨h1, by simp [h2]⟩
  | arr k d e => obtain ⟨h1, h2⟩ := fz_arr ho; exact ⟨h1, by simp [h2]⟩
  | map e => obtain ⟨h1, h2⟩ := fz_map ho; exact ⟨h1, by simp [h2]⟩
theorem isCell_fz {id : Nat} {els : List (List RD)} (x : AV) : isCell (fz id els x) = isCell x := by
  cases x with
  | aref i t => simp only [fz]; cases Nat.beq i id <;> rfl
  | _ => rfl
theorem isCell_fzs {id : Nat} {els : List (List RD)} : ∀ (xs : List AV), (fzs id els xs).all isCell = xs.all isCell
  | [] => rfl
  | x :: r => by simp only [fzs, List.all_cons, isCell_fz, isCell_fzs r]
mutual
theorem AVR_fz (R : Rel w0 rs cs m cl fr st tmps w) {id k : Nat} {d : Bool} {els : List (List RD)} (hb : st.ob id = some (.arr k d els)) : ∀ {x : AV} {v : Value} {fs : List Nat}, AVR (st.mp m fr) w x v fs → Froz m st w fs →
    ∃ gs, AVR ((st.freeze id els).mp m fr) w (fz id els x) v gs ∧ FrozBut m st w [id] gs
  | .rd d, v, fs, h, hF => ⟨fs, by simpa only [AVR, fz] using h, FrozBut.of hF _⟩
  | .nil, v, fs, h, hF => ⟨fs, by simpa only [AVR, fz] using h, FrozBut.of hF _⟩
  | .bad, v, fs, h, hF => ⟨fs, by simpa only [AVR, fz] using h, FrozBut.of hF _⟩
  | .aref i t, v, fs, h, hF => by
    simp only [fz]
    cases hi : Nat.beq i id with
    | true =>
      cases Nat.eq_of_beq_eq_true hi
      obtain ⟨gs, h1, h2, _⟩ := arr_RR R hb h
      exact ⟨gs, by simpa only [cond_true, AVR] using h1, h2⟩
    | false =>
      simp only [AVR] at h
      exact ⟨fs, by simp only [cond_false, AVR]; exact ⟨h.1, h.2.1, fun k d e ho => h.2.2 _ _ _ (fz_arr ho).2⟩, FrozBut.of hF _⟩
  | .sref i off n t, v, fs, h, hF => by
    simp only [AVR] at h
    exact ⟨fs, by simp only [fz, AVR]; exact ⟨h.1, h.2.1, fun k d e ho => h.2.2 _ _ _ (fz_arr ho).2⟩, FrozBut.of hF _⟩
  | .bref i j, v, fs, h, hF => by
    simp only [AVR] at h
    exact ⟨fs, by simp only [fz, AVR]; exact ⟨h.1, h.2.1, fun ty c ho => by obtain ⟨_, c0, h1, _⟩ := fz_box ho; exact h.2.2 _ _ h1⟩, FrozBut.of hF _⟩
  | .eref i x j, v, fs, h, hF => by
    simp only [AVR] at h
    exact ⟨fs, by simp only [fz, AVR]; exact ⟨h.1, h.2.1, fun k d e ho => h.2.2 _ _ _ (fz_arr ho).2⟩, FrozBut.of hF _⟩
  | .mref i, v, fs, h, hF => by
    simp only [AVR] at h
    exact ⟨fs, by simp only [fz, AVR]; exact ⟨h.1, h.2.1, fun e ho => h.2.2 _ (fz_map ho).2⟩, FrozBut.of hF _⟩
  | .fnv g xs, v, fs, h, hF => by
    simp only [AVR] at h
    obtain ⟨vs, h1, h2⟩ := h
    obtain ⟨gs, h3, h4⟩ := AVL_fz R hb h2 hF
    exact ⟨gs, by simp only [fz, AVR]; exact ⟨vs, h1, h3⟩, h4⟩
  | .agg xs, v, fs, h, hF => by
    simp only [AVR] at h
    obtain ⟨vs, h1, h2, hc⟩ := h
    obtain ⟨gs, h3, h4⟩ := AVL_fz R hb h2 hF
    exact ⟨gs, by simp only [fz, AVR]; exact ⟨vs, h1, h3, by rw [isCell_fzs]; exact hc⟩, h4⟩
  | .tup xs, v, fs, h, hF => by
    simp only [AVR] at h
    obtain ⟨vs, h1, h2⟩ := h
    obtain ⟨gs, h3, h4⟩ := AVL_fz R hb h2 hF
    exact ⟨gs, by simp only [fz, AVR]; exact ⟨vs, h1, h3⟩, h4⟩
theorem AVL_fz (R : Rel w0 rs cs m cl fr st tmps w) {id k : Nat} {d : Bool} {els : List (List RD)} (hb : st.ob id = some (.arr k d els)) : ∀ {xs : List AV} {vs : List Value} {fs : List Nat}, AVL (st.mp m fr) w xs vs fs → Froz m st w fs →
    ∃ gs, AVL ((st.freeze id els).mp m fr) w (fzs id els xs) vs gs ∧ FrozBut m st w [id] gs
  | [], vs, fs, h, hF => ⟨fs, by simpa only [AVL, fzs] using h, FrozBut.of hF _⟩
  | x :: xs, vs, fs, h, hF => by
    simp only [AVL] at h
    obtain ⟨v, us, f, g, rfl, h1, h2, rfl⟩ := h
    obtain ⟨f', h3, h4⟩ := AVR_fz R hb h1 (fun b hb => hF b (by simp [hb]))
    obtain ⟨g', h5, h6⟩ := AVL_fz R hb h2 (fun b hb => hF b (by simp [hb]))
    refine ⟨f' ++ g', ?_, fun b hb => (List.mem_append.1 hb).elim (h4 b) (h6 b)⟩
    simp only [AVL, fzs]
    exact ⟨v, us, f', g', rfl, h3, h5, rfl⟩
end
theorem Rel.frozen (R : Rel w0 rs cs m cl fr st tmps w) {id k : Nat} {d : Bool} {els : List (List RD)} (hb : st.ob id = some (.arr k d els)) : Rel w0 rs cs m cl fr (st.freeze id els) tmps w := by
  have fz' : ∀ {gs : List Nat}, FrozBut m st w [id] gs → Froz m (st.freeze id els) w gs := fun h b hb => ⟨(h b hb).1, fun i hl hp => (h b hb).2 i (by simpa using (fz_live hl).1) (fz_live hl).2 hp⟩
  have fo : ∀ {gs : List Nat}, Froz m st w gs → Froz m (st.freeze id els) w gs := fun h b hb => ⟨(h b hb).1, fun i hl hp => (h b hb).2 i (fz_live hl).2 hp⟩
  have deep : ∀ i o, (st.freeze id els).ob i = some o → deepO o = true → st.ob i = some o := by
    intro i o ho hd
    cases o with
    | arr k d e => exact (fz_arr ho).2
    | box => cases hd
    | map => cases hd
  constructor
  · exact R.fram
  · intro t
    obtain ⟨fs, h1, h2⟩ := R.tm t
    obtain ⟨gs, h3, h4⟩ := AVR_fz R hb h1 h2
    exact ⟨gs, h3, fz' h4⟩
  · intro i o ho
    cases o with
    | arr k d e =>
      obtain ⟨fs, h1, h2, h3⟩ := R.ob i _ (fz_arr ho).2
      exact ⟨fs, by simp only [OBR] at h1 ⊢; exact h1, fo h2, h3⟩
    | map e =>
      obtain ⟨fs, h1, h2, h3⟩ := R.ob i _ (fz_map ho).2
      exact ⟨fs, by simp only [OBR] at h1 ⊢; exact h1, fo h2, h3⟩
    | box ty c =>
      obtain ⟨_, c0, h0, rfl⟩ := fz_box ho
      obtain ⟨fs, h1, h2, h3⟩ := R.ob i _ h0
      simp only [OBR] at h1
      obtain ⟨b, a, e, g1, g2, g3, g4⟩ := h1
      obtain ⟨gs, g5, g6⟩ := AVL_fz R hb g3 h2
      exact ⟨gs, by simp only [OBR]; exact ⟨b, a, e, g1, g2, g5, by rw [isCell_fzs]; exact g4⟩, fz' g6, fun hd => by cases hd⟩
  · exact fun i j b h1 h2 => R.inj i j b (fz_live h1).2 (fz_live h2).2
  · exact fun i b h => R.mine i b (fz_live h).2
  · exact fun i o ho hd hp => R.cl1 i o (deep i o ho hd) hd hp
  · exact fun i j o o' h1 h2 h3 h4 h5 h6 => R.cl2 i j o o' (deep i o h1 h3) (deep j o' h2 h4) h3 h4 h5 h6
  · intro i hf
    refine ⟨?_, (R.fr i hf).2⟩
    simp only [St.freeze]
    cases Nat.beq i id with
    | true => rfl
    | false => simp only [cond_false, (R.fr i hf).1, fzO]
  · exact R.bad
  · exact R.badEq
theorem frzAll_ok : ∀ {l : List (Nat × Nat)} {st : St}, Rel w0 rs cs m cl (fun id => st.nx ≤ id) st tmps w → Rel w0 rs cs m cl (fun id => (frzAll l st).nx ≤ id) (frzAll l st) tmps w
  | [], st, R => R
  | (t, c) :: r, st, R => by
    unfold frzAll
    split
    · split
      · rename_i hb
        exact frzAll_ok (st := st.freeze _ _) (R.frozen hb)
      · exact frzAll_ok R
    · exact frzAll_ok R
theorem lowAll_ok : ∀ {l : List (Nat × Nat)} {st : St}, Rel w0 rs cs m cl (fun id => st.nx ≤ id) st tmps w → Rel w0 rs cs m cl (fun id => (lowAll l st).nx ≤ id) (lowAll l st) tmps w
  | [], st, R => R
  | (t, c) :: r, st, R => by
    unfold lowAll
    split
    · split
      · rename_i id _ _ _ k d els hb
        refine lowAll_ok (st := { st with ob := fun i => bif Nat.beq i id then some (.arr k false els) else st.ob i }) (R.lower rfl rfl (fun i => ?_))
        cases hi : Nat.beq i id with
        | true =>
          cases Nat.eq_of_beq_eq_true hi
          exact .inr ⟨k, d, els, hb, by simp only [hi, cond_true]⟩
        | false => exact .inl (by simp only [hi, cond_false])
      · exact lowAll_ok R
    · exact lowAll_ok R
theorem canon_ok {R : Type} {live : Live} {K : List AV → List OB → Option R} {r : R} (h : canon E live st K = some r) (Rl : Rel w0 rs cs m cl (fun id => st.nx ≤ id) st tmps w) :
    ∃ avs obs m' cl', K avs obs = some r ∧ Rel w0 rs cs m' cl' (fun id => (mkSt live avs obs).nx ≤ id) (mkSt live avs obs) tmps w := by
  unfold canon at h
  split at h
  · rename_i st1 hn
    obtain ⟨m1, cl1, R0⟩ := nilFix_ok hn Rl
    have R1 := lowAll_ok (l := live.low) (frzAll_ok (l := live.frz) R0)
    revert R1 h
    generalize lowAll live.low (frzAll live.frz st1) = st1
    intro h R1
    unfold canonF at h
    generalize idsOf 1000 st1.ob (live.ts.map fun x => st1.tm x.1) [] = ids at h
    unfold canonW at h
    split at h
    · rename_i hnd
      exact ⟨_, _, renM m1 ids, renC cl1 ids, h, by rw [mkSt_ren]; have := R1.ren (live := live.ts) (nodupB_spec hnd); simpa [mkSt, St.ren] using this⟩
    · cases h
  · cases h
end
end Go.Den
end
section
namespace Go.Den
open Go
set_option linter.unusedSimpArgs false
set_option linter.unusedVariables false
def exOf : Ex → Exit
  | .normal => .normal
  | .exit i => .exit i
  | .ret => .ret
section
variable {P : Program} {E : Env} {w0 : World} {rs : List Nat} {cs : Cs} {A : Array Value} {lo : List Nat} {N : Nat} {R : Type}
def Ends (w0 : World) (rs : List Nat) (cs : Cs) (A : Array Value) (lo : List Nat) (N : Nat) (K : Ex → St → Option R) (r : R) (Q : Exit → Act → World → Prop) : Prop :=
  ∀ e st a w m cl, K e st = some r → Rel w0 rs cs m cl (fun id => st.nx ≤ id) st a.tmps w → On A lo N a → Q (exOf e) a w
theorem opsOk_dst {ops : Array Oper} (h : opsOk lo N ops = true) : (∀ (i : Nat) (o : Oper), ops[i]? = some o → ∀ t, o.dst = some t → t ∉ lo ∧ t < N) ∧ edgesOk ops.toList = true := by
  simp only [opsOk, Bool.and_eq_true, List.all_eq_true] at h
  refine ⟨fun i o ho t ht => ?_, h.2⟩
  have := h.1 o (Array.mem_toList_iff.2 (Array.mem_of_getElem? ho))
  rw [ht] at this
  simp only [Bool.and_eq_true, Bool.not_eq_true'] at this
  refine ⟨fun hm => ?_, Nat.le_of_ble_eq_true this.2⟩
  have h2 := this.1
  rw [List.any_eq_false] at h2
  exact h2 t hm (Nat.beq_refl t)
theorem region_ok (OK : EnvOK P E) (hmix : P.follows .mixedOrders = true) {id : Nat} {ops : Array Oper} {draw : Bool} (hc : opsOk lo N ops = true) {st : St} {K : St → Option R} {r : R} (h : denRegion E ops draw st K = some r)
    {Q : Exit → Act → World → Prop} {a : Act} {w : World} {m : Gm} {cl : Nat → List Nat} (Rl : Rel w0 rs cs m cl (fun id => st.nx ≤ id) st a.tmps w) (hOn : On A lo N a)
    (hQ : ∀ st' a w m cl, K st' = some r → Rel w0 rs cs m cl (fun id => st'.nx ≤ id) st' a.tmps w → On A lo N a → Q .normal a w) : (Code.region id ops draw).wp P Q a w := by
  obtain ⟨hd, hed⟩ := opsOk_dst hc
  obtain ⟨Ts, h1, h2, h3⟩ := runOps_tr h
  have hlen : Ts.length = ops.size := by have := congrArg List.length h1; simpa using this
  have hin : ∀ T ∈ Ts, ops[T.i]? = some T.o := by
    intro T hT
    have : (T.o, T.i) ∈ ops.toList.zipIdx := by rw [← h1]; exact List.mem_map.2 ⟨T, hT, rfl⟩
    have := List.mem_zipIdx_iff_getElem?.1 this
    simpa using this
  have hend : ∀ a' w' m' cl', On A lo N a' → Rel w0 rs cs m' cl' (fun id => st.nx + 64 * ops.size ≤ id) (apAll Ts st) a'.tmps w' → K { apAll Ts st with nx := st.nx + 64 * ops.size } = some r → Q .normal a' w' := by
    intro a' w' m' cl' hOn' R' hK
    exact hQ _ a' w' m' cl' hK (R'.same (fun k => ⟨fun _ _ => rfl, fun _ _ => rfl, fun _ _ => rfl⟩)) hOn'
  cases draw with
  | false =>
    refine wp_region ?_
    have hi : Ts.map Tr.i = List.range' 0 Ts.length := by
      have : Ts.map Tr.i = (Ts.map (fun T => (T.o, T.i))).map (·.2) := by simp
      rw [this, h1, hlen, List.zipIdx_map_snd]
      simp
    have := region_text (Q := Q) OK hd hin hi h2 (by simpa using Rl) hOn (fun a' w' m' cl' q1 q2 => hend a' w' m' cl' q1 (by rw [Nat.zero_add, hlen] at q2; exact q2) h3)
    rw [hi, hlen] at this
    rw [List.range_eq_range']
    exact this
  | true =>
    refine wp_region_any hmix ?_
    simp only at h3
    split at h3
    · rename_i hlog
      have hprs := logOk_pairs hlog
      simp only [List.append_nil] at hprs
      rw [List.pairwise_reverse] at hprs
      have H : Reg E ops st.nx lo N Ts st := ⟨h1, h2, hprs, hed, hd⟩
      have hX : ∀ i, (Array.replicate ops.size false).getD i false = false := by
        intro i
        rw [Array.getD_eq_getD_getElem?]
        by_cases hi : i < ops.size <;> simp [hi]
      refine region_any OK H (fun a' w' m' cl' q1 q2 => hend a' w' m' cl' q1 q2 h3) ops.size _ a _ m cl (by simp) ?_ ?_ hOn ?_
      · unfold left
        have := List.length_filter_le (fun i => !(Array.replicate ops.size false).getD i true) (List.range ops.size)
        simpa using this
      · intro i hi
        have hi : (Array.replicate ops.size false).getD i false = true := hi
        rw [hX i] at hi; cases hi
      · rw [sel_none (fun T _ => hX T.i)]
        refine (Rl.drew (w.drawn + 1)).less (fun id hid => hid.1)
    · cases h3
theorem node_ok {h : Option Hint} {run : St → (Ex → St → Option R) → Option R} {st : St} {K : Ex → St → Option R} {r : R} {c : Code} {Q : Exit → Act → World → Prop} {a : Act} {w : World} {m : Gm} {cl : Nat → List Nat}
    (hr : nodeK E h run st K = some r) (Rl : Rel w0 rs cs m cl (fun id => st.nx ≤ id) st a.tmps w) (hQ : Ends w0 rs cs A lo N K r Q)
    (H : ∀ {st : St} {K : Ex → St → Option R} {m : Gm} {cl : Nat → List Nat}, run st K = some r → Rel w0 rs cs m cl (fun id => st.nx ≤ id) st a.tmps w → Ends w0 rs cs A lo N K r Q → c.wp P Q a w) : c.wp P Q a w := by
  unfold nodeK at hr
  split at hr
  · exact H hr Rl hQ
  · obtain ⟨avs, obs, m', cl', h1, h2⟩ := canon_ok hr Rl
    refine H h1 h2 (fun e st2 a' w' m2 cl2 q1 q2 q3 => ?_)
    unfold outK at q1
    split at q1
    · obtain ⟨avs, obs, m3, cl3, h3, h4⟩ := canon_ok q1 q2
      exact hQ e _ a' w' m3 cl3 h3 h4 q3
    · cases q1
theorem den_ok (OK : EnvOK P E) (hmix : P.follows .mixedOrders = true) {n : Nat} : ∀ {c : Code} {t : ST}, codeOk lo N c = true → ∀ {st : St} {K : Ex → St → Option R} {r : R}, den E n c t st K = some r →
    ∀ {Q : Exit → Act → World → Prop} {a : Act} {w : World} {m : Gm} {cl : Nat → List Nat}, Rel w0 rs cs m cl (fun id => st.nx ≤ id) st a.tmps w → On A lo N a → Ends w0 rs cs A lo N K r Q → c.wp P Q a w
  | .skip, t, _, st, K, r, h, Q, a, w, m, cl, Rl, hOn, hQ => wp_skip (hQ .normal st a w m cl h Rl hOn)
  | .region id ops draw, t, hc, st, K, r, h, Q, a, w, m, cl, Rl, hOn, hQ =>
    region_ok OK hmix hc h Rl hOn (fun st' a w m cl h1 h2 h3 => hQ .normal st' a w m cl h1 h2 h3)
  | .seq x y, t, hc, st, K, r, h, Q, a, w, m, cl, Rl, hOn, hQ => by
    simp only [codeOk, Bool.and_eq_true] at hc
    simp only [den] at h
    refine node_ok h Rl hQ (fun {st K m cl} h Rl hQ => ?_)
    refine wp_seq (den_ok OK hmix hc.1 h Rl hOn (fun e st' a' w' m' cl' h1 h2 h3 => ?_))
    cases e with
    | normal => exact den_ok OK hmix hc.2 h1 h2 h3 hQ
    | exit i => exact hQ (.exit i) st' a' w' m' cl' h1 h2 h3
    | ret => exact hQ .ret st' a' w' m' cl' h1 h2 h3
  | .cond c x y, t, hc, st, K, r, h, Q, a, w, m, cl, Rl, hOn, hQ => by
    simp only [codeOk, Bool.and_eq_true] at hc
    simp only [den] at h
    refine node_ok h Rl hQ (fun {st K m cl} h Rl hQ => ?_)
    obtain ⟨b, l', h1, h2⟩ := run_ans _ _ _ _ h
    refine wp_cond (getB_ok Rl h1) ?_
    cases b with
    | true => exact den_ok OK hmix hc.1 h2 Rl hOn hQ
    | false => exact den_ok OK hmix hc.2 h2 Rl hOn hQ
  | .block id b, t, hc, st, K, r, h, Q, a, w, m, cl, Rl, hOn, hQ => by
    simp only [den] at h
    refine node_ok h Rl hQ (fun {st K m cl} h Rl hQ => ?_)
    refine wp_block (den_ok (c := b) OK hmix hc h Rl hOn (fun e st' a' w' m' cl' h1 h2 h3 => ?_))
    cases e with
    | normal => exact hQ .normal st' a' w' m' cl' h1 h2 h3
    | exit i =>
      simp only at h1
      simp only [exOf, Exit.inBlock]
      split at h1
      · rename_i hi
        rw [if_pos (Nat.eq_of_beq_eq_true hi)]
        exact hQ .normal st' a' w' m' cl' h1 h2 h3
      · rename_i hi
        rw [if_neg (fun e => by rw [e, Nat.beq_refl] at hi; cases hi)]
        exact hQ (.exit i) st' a' w' m' cl' h1 h2 h3
    | ret => exact hQ .ret st' a' w' m' cl' h1 h2 h3
  | .loop b, t, hc, st, K, r, h, Q, a, w, m, cl, Rl, hOn, hQ => by
    simp only [den] at h
    refine node_ok h Rl hQ (fun {st K m cl} h Rl hQ => ?_)
    have key : ∀ k {st : St} {a : Act} {w : World} {m : Gm} {cl : Nat → List Nat}, denLoop E (hLive t.h) (den E n b t.l) k st K = some r → Rel w0 rs cs m cl (fun id => st.nx ≤ id) st a.tmps w → On A lo N a → Code.rounds P b Q k a w := by
      intro k
      induction k with
      | zero => intro st a w m cl h; cases h
      | succ k ih =>
        intro st a w m cl h Rl hOn
        simp only [denLoop] at h
        rw [rounds_succ]
        refine den_ok (c := b) OK hmix hc h Rl hOn (fun e st' a' w' m' cl' h1 h2 h3 => ?_)
        cases e with
        | normal =>
          simp only at h1
          split at h1
          · obtain ⟨avs, obs, m3, cl3, h4, h5⟩ := canon_ok h1 h2
            exact ih h4 h5 h3
          · exact ih h1 h2 h3
        | exit i => exact hQ (.exit i) st' a' w' m' cl' h1 h2 h3
        | ret => exact hQ .ret st' a' w' m' cl' h1 h2 h3
    exact wp_loop_rounds n (key n h Rl hOn)
  | .exit id, t, _, st, K, r, h, Q, a, w, m, cl, Rl, hOn, hQ => wp_exit (hQ (.exit id) st a w m cl h Rl hOn)
  | .ret, t, _, st, K, r, h, Q, a, w, m, cl, Rl, hOn, hQ => wp_ret (hQ .ret st a w m cl h Rl hOn)
  | .rangeFunc .., t, _, st, K, r, h, Q, a, w, m, cl, Rl, hOn, hQ => by simp [den] at h
  | .scope .., t, _, st, K, r, h, Q, a, w, m, cl, Rl, hOn, hQ => by simp [den] at h
  | .label .., t, _, st, K, r, h, Q, a, w, m, cl, Rl, hOn, hQ => by simp [den] at h
  | .goto .., t, _, st, K, r, h, Q, a, w, m, cl, Rl, hOn, hQ => by simp [den] at h
end
end Go.Den
end
section
namespace Go.Den
open Go
set_option linter.unusedSimpArgs false
set_option linter.unusedVariables false
section
variable {P : Program} {E : Env} {w0 w w' : World} {rs fs : List Nat} {cs : Cs} {m m' : Gm} {cl : Nat → List Nat} {fr fr' : Nat → Prop} {st : St} {tmps : Array Value}
theorem AVL_get {M : Mp} : ∀ {xs : List AV} {vs : List Value} {fs : List Nat} {t : Nat} {x : AV}, AVL M w xs vs fs → xs[t]? = some x → ∃ v f, vs[t]? = some v ∧ AVR M w x v f ∧ ∀ b ∈ f, b ∈ fs
  | [], vs, fs, t, x, _, h => by simp at h
  | y :: xs, vs, fs, 0, x, h, ht => by
    simp only [AVL] at h
    obtain ⟨v, us, f, g, rfl, h1, h2, rfl⟩ := h
    simp only [List.getElem?_cons_zero, Option.some.injEq] at ht
    subst ht
    exact ⟨v, f, rfl, h1, fun b hb => List.mem_append_left _ hb⟩
  | y :: xs, vs, fs, t + 1, x, h, ht => by
    simp only [AVL] at h
    obtain ⟨v, us, f, g, rfl, h1, h2, rfl⟩ := h
    simp only [List.getElem?_cons_succ] at ht
    obtain ⟨v', f', h3, h4, h5⟩ := AVL_get h2 ht
    exact ⟨v', f', by simpa using h3, h4, fun b hb => List.mem_append_right _ (h5 b hb)⟩
theorem Ds_length : ∀ {ds : List DV} {vs : List Value} {rs cs fs : List Nat}, Ds w ds vs rs cs fs → vs.length = ds.length
  | [], vs, rs, cs, fs, h => by simp only [Ds] at h; simp [h.1]
  | d :: ds, vs, rs, cs, fs, h => by
    simp only [Ds] at h
    obtain ⟨v, us, r1, r2, c1, c2, f1, f2, rfl, h1, h2, _⟩ := h
    simp [Ds_length h2]
def st0 : St := { tm := fun _ => .tup [], ob := fun _ => none, pm := fun _ => false, nx := 0 }
theorem Rel.start {cs : List Nat} {ds : List DV} {args : Array Value} {bad : Nat → Prop} (hp : Pre w ds args.toList rs cs fs bad) {vs : List AV} {us : List Upd} {nx n : Nat} (hi : importMany 0 0 ds = some (vs, us, nx)) :
    ∃ m cl, Rel w rs ⟨cs, bad⟩ m cl (fun id => nx ≤ id) { ({ tm := tmOf vs, ob := fun _ => none, pm := fun _ => false, nx := nx } : St).upds us with nx := nx } (args ++ Array.replicate n undef) w := by
  obtain ⟨es, fs', hI, hfs, hA⟩ := importMany_ok hi hp.d
  have hids : (es.map Ent.id).Nodup := by rw [hI.hids]; exact List.nodup_range'
  have hlt : ∀ e ∈ es, e.id < nx := by
    intro e he
    have : e.id ∈ List.range' (0 + 0) es.length := by rw [← hI.hids]; exact List.mem_map_of_mem he
    have := List.mem_range'_1.1 this
    rw [hI.hc]; omega
  let S : St := { ({ tm := tmOf vs, ob := fun _ => none, pm := fun _ => false, nx := nx } : St).upds us with nx := nx }
  have hSob : ∀ e ∈ es, S.ob e.id = some e.o := fun e he => by
    show (St.upds _ us).ob e.id = _
    rw [hI.hus]; exact up_mem hids he
  have hSnone : ∀ i, i ∉ es.map Ent.id → S.ob i = none := fun i hi => by
    show (St.upds _ us).ob i = _
    rw [hI.hus, up_not hi]
  have hSpm : ∀ i, S.pm i = false := fun i => by
    show (St.upds _ us).pm i = _
    rw [hI.hus, up_pm]
  have hStm : S.tm = tmOf vs := by
    show (St.upds _ us).tm = _
    rw [upds_tm]
  have hm_in : ∀ e ∈ es, (swapM ⟨fun _ => none, bad⟩ es) e.id = e.bk := fun e he => by simp [swapM, findE_mem hids he]
  have hc_in : ∀ e ∈ es, swapC (fun _ => []) es e.id = e.fs := fun e he => by simp [swapC, findE_mem hids he]
  have hSin : ∀ i o, S.ob i = some o → ∃ e ∈ es, e.id = i ∧ e.o = o := by
    intro i o h
    by_cases hi : i ∈ es.map Ent.id
    · obtain ⟨e, he, rfl⟩ := List.mem_map.1 hi
      rw [hSob e he] at h
      exact ⟨e, he, rfl, Option.some.inj h⟩
    · rw [hSnone i hi] at h; cases h
  have hH : Has (S.mp (swapM ⟨fun _ => none, bad⟩ es) (fun id => nx ≤ id)) es := fun e he => ⟨hSob e he, hm_in e he, fun h => by have := hlt e he; simp only [St.mp] at h; omega⟩
  have hbk : ∀ e ∈ es, ∀ b, e.bk = some b → b ∈ rs := fun e he b hb => by rw [← hI.hrs]; exact List.mem_filterMap.2 ⟨e, he, hb⟩
  have hF : ∀ {gs : List Nat}, (∀ b ∈ gs, b ∈ cs ++ fs) → Froz (swapM ⟨fun _ => none, bad⟩ es) S w gs := by
    intro gs hg b hb
    obtain ⟨h1, h2⟩ := hp.fs b (hg b hb)
    refine ⟨h1, fun i hl _ hm => ?_⟩
    obtain ⟨o, ho⟩ := Option.ne_none_iff_exists'.1 hl
    obtain ⟨e, he, rfl, _⟩ := hSin i o ho
    rw [hm_in e he] at hm
    exact h2 (hbk e he b hm)
  have hfsE : ∀ e ∈ es, ∀ b ∈ e.fs, b ∈ cs ++ fs := by
    intro e he b hb
    by_cases hd : deepO e.o = true
    · refine List.mem_append_left _ ?_
      rw [← hI.hcs]
      exact List.mem_flatMap.2 ⟨e, he, by simp [Ent.cl, hd, hb]⟩
    · exact List.mem_append_right _ ((hI.hob _ hH e he).2 (by simpa using hd) b hb)
  refine ⟨swapM ⟨fun _ => none, bad⟩ es, swapC (fun _ => []) es, ?_⟩
  show Rel w rs ⟨cs, bad⟩ _ _ _ S _ w
  constructor
  · exact Fram.refl _ _
  · intro t
    rw [hStm]
    unfold tmOf
    have hAL := hA _ hH
    have hvl : vs.length = args.size := by have := AVL_length hAL; simpa using this.symm
    split
    · rename_i v hv
      obtain ⟨u, f, h1, h2, h3⟩ := AVL_get hAL hv
      have ht : t < args.size := by rw [← hvl]; exact (List.getElem?_eq_some_iff.1 hv).1
      have : (args ++ Array.replicate n undef).getD t undef = u := by
        rw [Array.getD_eq_getD_getElem?, Array.getElem?_append_left ht]
        have : args[t]? = some u := by rw [← Array.getElem?_toList]; exact h1
        rw [this]; rfl
      rw [this]
      exact ⟨f, h2, hF (fun b hb => List.mem_append_right _ (hfs b (h3 b hb)))⟩
    · rename_i hv
      have ht : args.size ≤ t := by rw [← hvl]; exact List.getElem?_eq_none_iff.1 hv
      have : (args ++ Array.replicate n undef).getD t undef = undef := by
        rw [Array.getD_eq_getD_getElem?, Array.getElem?_append_right ht]
        by_cases h : t - args.size < n <;> simp [h]
      rw [this]
      exact ⟨[], undef_ok, froz_nil⟩
  · intro i o ho
    obtain ⟨e, he, rfl, rfl⟩ := hSin i o ho
    exact ⟨e.fs, (hI.hob _ hH e he).1, hF (hfsE e he), fun _ _ => (hc_in e he).symm⟩
  · intro i i' b h1 h2 h3 h4
    obtain ⟨o, ho⟩ := Option.ne_none_iff_exists'.1 h1
    obtain ⟨o', ho'⟩ := Option.ne_none_iff_exists'.1 h2
    obtain ⟨e, he, rfl, _⟩ := hSin i o ho
    obtain ⟨e', he', rfl, _⟩ := hSin i' o' ho'
    rw [hm_in e he] at h3
    rw [hm_in e' he'] at h4
    rw [pair_nodup (f := fun e => e.bk.toList) (bk_nodup (by rw [hI.hrs]; exact hp.rs1)) he he' (b := b) (by simp [h3]) (by simp [h4])]
  · intro i b h1 h2
    obtain ⟨o, ho⟩ := Option.ne_none_iff_exists'.1 h1
    obtain ⟨e, he, rfl, _⟩ := hSin i o ho
    rw [hm_in e he] at h2
    exact ⟨(hp.rs2 b (hbk e he b h2)).1, .inl (hbk e he b h2)⟩
  · intro i o h1 h2 h3
    obtain ⟨e, he, rfl, rfl⟩ := hSin i o h1
    rw [hc_in e he]
    have hcl : e.cl = e.fs := by simp [Ent.cl, h2]
    rw [← hcl]
    refine ⟨one_nodup (by rw [hI.hcs]; exact hp.cs1) he, fun b hb => .inr (.inl ?_)⟩
    show b ∈ cs
    rw [← hI.hcs]; exact List.mem_flatMap.2 ⟨e, he, hb⟩
  · intro i i' o o' h1 h2 h3 h4 h5 h6 hne b hb
    obtain ⟨e, he, rfl, rfl⟩ := hSin i o h1
    obtain ⟨e', he', rfl, rfl⟩ := hSin i' o' h2
    rw [hc_in e he] at hb
    rw [hc_in e' he']
    intro hb'
    exact hne (by rw [pair_nodup (f := Ent.cl) (by rw [hI.hcs]; exact hp.cs1) he he' (b := b) (by simp [Ent.cl, h3, hb]) (by simp [Ent.cl, h4, hb'])])
  · intro i hf
    refine ⟨hSnone i (fun h => ?_), hSpm i⟩
    obtain ⟨e, he, rfl⟩ := List.mem_map.1 h
    have := hlt e he
    omega
  · intro b hb
    exact ⟨hp.bad b hb, fun h => (hp.rs2 b h).2 hb⟩
  · rfl
end
end Go.Den
end
section
namespace Go.Den
open Go
set_option linter.unusedSimpArgs false
set_option linter.unusedVariables false
section
variable {P : Program} {E : Env} {w0 w w' : World} {rs fs : List Nat} {cs : Cs} {m m' : Gm} {cl : Nat → List Nat} {fr fr' : Nat → Prop} {st : St} {tmps : Array Value}
def deepAt (st : St) (i : Nat) : Prop := ∃ k els, st.ob i = some (.arr k true els)
def clO (st : St) (cl : Nat → List Nat) (i : Nat) : List Nat := match st.ob i with
  | some (.arr _ true _) => cl i
  | _ => []
structure Outs (m : Gm) (cl : Nat → List Nat) (st : St) (w : World) (used used' Rt X r1 c1 f1 : List Nat) : Prop where
  more : ∀ i ∈ used, i ∈ used'
  rt : ∀ i ∈ Rt, i ∈ used' ∧ i ∉ used ∧ st.pm i = false ∧ ((∃ k d els, st.ob i = some (.arr k d els)) ∨ ∃ ty cells, st.ob i = some (.box ty cells))
  nd : Rt.Nodup
  x : ∀ i ∈ X, i ∈ used' ∧ i ∉ used ∧ i ∉ Rt
  rs : r1.Sublist (Rt.filterMap m)
  cs : c1.Sublist (Rt.flatMap (clO st cl))
  fs : FrozBut m st w X f1
theorem Outs.nil (used : List Nat) {f1 : List Nat} (h : Froz m st w f1) : Outs m cl st w used used [] [] [] [] f1 :=
  ⟨fun _ h => h, by simp, by simp, by simp, by simp, by simp, FrozBut.of h _⟩
theorem Outs.append {u1 u2 u3 R1 R2 X1 X2 r1 r2 c1 c2 f1 f2 : List Nat} (h1 : Outs m cl st w u1 u2 R1 X1 r1 c1 f1) (h2 : Outs m cl st w u2 u3 R2 X2 r2 c2 f2) :
    Outs m cl st w u1 u3 (R1 ++ R2) (X1 ++ X2) (r1 ++ r2) (c1 ++ c2) (f1 ++ f2) where
  more i hi := h2.more i (h1.more i hi)
  rt i hi := by
    rcases List.mem_append.1 hi with hi | hi
    · obtain ⟨a, b, c, d⟩ := h1.rt i hi; exact ⟨h2.more i a, b, c, d⟩
    · obtain ⟨a, b, c, d⟩ := h2.rt i hi; exact ⟨a, fun h => b (h1.more i h), c, d⟩
  nd := List.nodup_append.2 ⟨h1.nd, h2.nd, fun i hi j hj e => by subst e; exact (h2.rt i hj).2.1 (h1.rt i hi).1⟩
  x i hi := by
    rcases List.mem_append.1 hi with hi | hi
    · obtain ⟨a, b, c⟩ := h1.x i hi
      refine ⟨h2.more i a, b, fun h => ?_⟩
      rcases List.mem_append.1 h with h | h
      · exact c h
      · exact (h2.rt i h).2.1 a
    · obtain ⟨a, b, c⟩ := h2.x i hi
      refine ⟨a, fun h => b (h1.more i h), fun h => ?_⟩
      rcases List.mem_append.1 h with h | h
      · exact b (h1.rt i h).1
      · exact c h
  rs := by rw [List.filterMap_append]; exact h1.rs.append h2.rs
  cs := by rw [List.flatMap_append]; exact h1.cs.append h2.cs
  fs := h1.fs.append h2.fs
theorem any_in {used : List Nat} {id : Nat} (h : used.any (Nat.beq id) = false) : id ∉ used := by
  intro hi
  rw [List.any_eq_false] at h
  exact h id hi (Nat.beq_refl id)
theorem shal_ok (R : Rel w0 rs cs m cl fr st tmps w) {id k : Nat} {t : Bool} {els : List (List RD)} {v : Value} {fs : List Nat} (hb : st.ob id = some (.arr k false els)) (h : AVR (st.mp m fr) w (.aref id t) v fs) :
    ∃ r1 f1, DC w (.shal k t els) v r1 [] f1 ∧ r1.Sublist ([id].filterMap m) ∧ Froz m st w f1 := by
  obtain ⟨f, hO, hFf, _⟩ := R.ob id _ hb
  obtain ⟨A, c, rfl, h2, h3, h4⟩ := h.2.2 _ _ _ hb
  rcases h4 with ⟨h0, rfl⟩ | ⟨b, hm, rfl, hle⟩
  · have h0 := List.eq_nil_of_length_eq_zero h0
    subst h0
    exact ⟨[], [], ⟨rfl, A, 0, rfl, h2, h3, .inl ⟨rfl, rfl, rfl, rfl⟩⟩, by simp, froz_nil⟩
  · have hm2 : m id = some b := hm
    rcases hO with ⟨_, h0, _⟩ | ⟨b', a, e, hm', hw, hsz, hE⟩
    · have h0 : m id = none := h0
      rw [h0] at hm2; cases hm2
    · have hbb : b' = b := Option.some.inj (Eq.trans (Eq.symm (show m id = some b' from hm')) hm2)
      subst hbb
      exact ⟨[b'], f, ⟨rfl, _, c, rfl, h2, h3, .inr ⟨b', a, e, by simp, rfl, hw, by simpa [World.bsz, hw] using hle, hE⟩⟩, by simp [hm2], hFf⟩
theorem outC_ok (R : Rel w0 rs cs m cl fr st tmps w) {used used' : List Nat} {ty : Nat} {x : AV} {d : DV} {v : Value} {fs : List Nat} (h : outC E st used ty x = some (d, used')) (hv : AVR (st.mp m fr) w x v fs) (hF : Froz m st w fs) :
    ∃ Rt X r1 c1 f1, DC w d v r1 c1 f1 ∧ Outs m cl st w used used' Rt X r1 c1 f1 := by
  unfold outC at h
  split at h
  · simp only [Option.some.injEq, Prod.mk.injEq] at h
    obtain ⟨rfl, rfl⟩ := h
    exact ⟨[], [], [], [], fs, ⟨rfl, rfl, hv⟩, Outs.nil _ hF⟩
  · split at h
    · simp only [Option.some.injEq, Prod.mk.injEq] at h
      obtain ⟨rfl, rfl⟩ := h
      simp only [AVR] at hv
      exact ⟨[], [], [], [], [], ⟨rfl, none, 0, by simpa using hv.1, Nat.le_refl _, fun _ => rfl, .inl ⟨rfl, rfl, rfl, rfl⟩⟩, Outs.nil _ froz_nil⟩
    · cases h
  · rename_i id t
    split at h
    · rename_i k deep els hb
      split at h
      · cases h
      · rename_i hu
        split at h
        · rename_i hp
          simp only [Option.some.injEq, Prod.mk.injEq] at h
          obtain ⟨rfl, rfl⟩ := h
          obtain ⟨_, gs, e1, e2⟩ := expC_ok (E := E) (r := (.sl t els, [id])) R hv hF (by simp [expC, hb])
          refine ⟨[], [], [], [], gs, ⟨rfl, rfl, e1⟩, ⟨fun _ h => h, by simp, by simp, by simp, by simp, by simp, fun b hb2 => ⟨(e2 b hb2).1, fun i _ hl hpi hm => ?_⟩⟩⟩
          by_cases hi : i = id
          · subst hi; rw [hp] at hpi; cases hpi
          · exact (e2 b hb2).2 i (by simp [hi]) hl hpi hm
        · rename_i hp
          split at h
          · simp only [Option.some.injEq, Prod.mk.injEq] at h
            obtain ⟨rfl, rfl⟩ := h
            obtain ⟨_, r1, c1, f1, e1, e2, e3, e4⟩ := expM_ok (E := E) (r := (.own k t els, [id])) R hv hF (by simp [expM, hb, hp])
            refine ⟨[id], [], r1, c1, f1, e1, ⟨fun i hi => by simp [hi], fun i hi => ?_, by simp, by simp, e2, ?_, FrozBut.of e4 _⟩⟩
            · simp at hi; subst hi
              exact ⟨by simp, any_in hu, hp, .inl ⟨k, true, els, hb⟩⟩
            · have : clO st cl id = cl id := by simp [clO, hb]
              simpa [this] using e3
          · simp only [Option.some.injEq, Prod.mk.injEq] at h
            obtain ⟨rfl, rfl⟩ := h
            obtain ⟨r1, f1, e1, e2, e4⟩ := shal_ok R hb hv
            refine ⟨[id], [], r1, [], f1, e1, ⟨fun i hi => by simp [hi], fun i hi => ?_, by simp, by simp, e2, by simp, FrozBut.of e4 _⟩⟩
            simp at hi; subst hi
            exact ⟨by simp, any_in hu, hp, .inl ⟨k, false, els, hb⟩⟩
    · cases h
  · rename_i id off n t
    split at h
    · rename_i k deep els hb
      split at h
      · cases h
      · rename_i hu
        simp only [Option.some.injEq, Prod.mk.injEq] at h
        obtain ⟨rfl, rfl⟩ := h
        obtain ⟨_, gs, e1, e2⟩ := expC_ok (E := E) (r := (.sl t ((els.drop off).take n), [id])) R hv hF (by simp [expC, hb])
        refine ⟨[], [id], [], [], gs, ⟨rfl, rfl, e1⟩, ⟨fun i hi => by simp [hi], by simp, by simp, fun i hi => ?_, by simp, by simp, e2⟩⟩
        simp at hi; subst hi
        exact ⟨by simp, any_in (by simpa using hu), by simp⟩
    · cases h
  · cases h
theorem outCs_ok (R : Rel w0 rs cs m cl fr st tmps w) : ∀ {ts : List Nat} {xs : List AV} {used used' : List Nat} {ds : List DV} {vs : List Value} {fs : List Nat}, outCs E st used ts xs = some (ds, used') → AVL (st.mp m fr) w xs vs fs → Froz m st w fs →
    ∃ Rt X r1 c1 f1, DCs w ds vs r1 c1 f1 ∧ Outs m cl st w used used' Rt X r1 c1 f1
  | ts, [], used, used', ds, vs, fs, h, hv, hF => by
    have h : some (([] : List DV), used) = some (ds, used') := by cases ts <;> exact h
    simp only [Option.some.injEq, Prod.mk.injEq] at h
    obtain ⟨rfl, rfl⟩ := h
    simp only [AVL] at hv
    exact ⟨[], [], [], [], [], by simp only [DCs]; exact ⟨hv.1, trivial, trivial, trivial⟩, Outs.nil _ froz_nil⟩
  | [], x :: xs, used, used', ds, vs, fs, h, hv, hF => by simp [outCs] at h
  | t :: ts, x :: xs, used, used', ds, vs, fs, h, hv, hF => by
    simp only [AVL] at hv
    obtain ⟨v, us, f, g, rfl, h1, h2, rfl⟩ := hv
    simp only [outCs] at h
    split at h
    · rename_i d u hd
      split at h
      · rename_i ds' u' hds
        simp only [Option.some.injEq, Prod.mk.injEq] at h
        obtain ⟨rfl, rfl⟩ := h
        obtain ⟨R1, X1, r1, c1, f1, e1, e2⟩ := outC_ok R hd h1 (hF.sub (fun b hb => List.mem_append_left _ hb))
        obtain ⟨R2, X2, r2, c2, f2, e3, e4⟩ := outCs_ok R hds h2 (hF.sub (fun b hb => List.mem_append_right _ hb))
        refine ⟨_, _, _, _, _, ?_, e2.append e4⟩
        simp only [DCs]
        exact ⟨v, us, r1, r2, c1, c2, f1, f2, rfl, e1, e3, rfl, rfl, rfl⟩
      · cases h
    · cases h
theorem outBox_ok (R : Rel w0 rs cs m cl fr st tmps w) {id ty : Nat} {cells : List AV} {used used' : List Nat} {ds : List DV} {ts : List Nat} (hb : st.ob id = some (.box ty cells)) (hp : st.pm id = false) (hu : id ∉ used)
    (h : outCs E st (id :: used) ts cells = some (ds, used')) {v : Value} {fs : List Nat} (hv : AVR (st.mp m fr) w (.bref id 0) v fs) :
    ∃ Rt X r1 c1 f1, D1 w (.mut ds) v r1 c1 f1 ∧ Outs m cl st w used used' Rt X r1 c1 f1 := by
  obtain ⟨f, ⟨b, a, e, hm, hw, hL, _⟩, hFf, _⟩ := R.ob id _ hb
  obtain ⟨R1, X1, r1, c1, f1, e1, e2⟩ := outCs_ok R h hL hFf
  obtain ⟨b', hm', rfl⟩ := hv.2.2 _ _ hb
  have hbb : b' = b := Option.some.inj (hm'.symm.trans hm)
  subst hbb
  have hm2 : m id = some b' := hm'
  have o1 : Outs m cl st w used (id :: used) [id] [] [b'] [] [] :=
    ⟨fun i hi => by simp [hi], fun i hi => (by simp at hi; subst hi; exact ⟨by simp, hu, hp, .inr ⟨ty, cells, hb⟩⟩), by simp, by simp, by simp [hm2], by simp, fun b hb => by cases hb⟩
  have := o1.append e2
  refine ⟨_, _, _, _, _, ?_, this⟩
  simp only [D1]
  exact ⟨b', a, e, r1, rfl, hw, rfl, by simpa using e1⟩
theorem out1_ok (R : Rel w0 rs cs m cl fr st tmps w) {used used' : List Nat} {ty : Nat} {x : AV} {d : DV} {v : Value} {fs : List Nat} (h : out1 E st used ty x = some (d, used')) (hv : AVR (st.mp m fr) w x v fs) (hF : Froz m st w fs) :
    ∃ Rt X r1 c1 f1, D1 w d v r1 c1 f1 ∧ Outs m cl st w used used' Rt X r1 c1 f1 := by
  unfold out1 at h
  split at h
  · split at h
    · split at h
      · rename_i ds u hds
        simp only [Option.some.injEq, Prod.mk.injEq] at h
        obtain ⟨rfl, rfl⟩ := h
        simp only [AVR] at hv
        obtain ⟨vs, rfl, hL, _⟩ := hv
        obtain ⟨R1, X1, r1, c1, f1, e1, e2⟩ := outCs_ok R hds hL hF
        exact ⟨_, _, _, _, _, ⟨vs, rfl, e1⟩, e2⟩
      · cases h
    · cases h
  · rename_i id
    split at h
    · rename_i ty0 cells hb
      split at h
      · rename_i hc
        split at h
        · rename_i ds u hds
          simp only [Option.some.injEq, Prod.mk.injEq] at h
          obtain ⟨rfl, rfl⟩ := h
          simp only [Bool.and_eq_true, Bool.not_eq_true'] at hc
          exact outBox_ok R hb hc.1 (any_in hc.2) hds hv
        · cases h
      · cases h
    · cases h
  · obtain ⟨R1, X1, r1, c1, f1, e1, e2⟩ := outC_ok R h hv hF
    refine ⟨R1, X1, r1, c1, f1, ?_, e2⟩
    cases d <;> first | exact e1 | exact e1.elim
theorem outs_ok (R : Rel w0 rs cs m cl fr st tmps w) : ∀ {ts : List Nat} {xs : List AV} {used used' : List Nat} {ds : List DV} {vs : List Value} {fs : List Nat}, outs E st used ts xs = some (ds, used') → AVL (st.mp m fr) w xs vs fs → Froz m st w fs →
    ∃ Rt X r1 c1 f1, Ds w ds vs r1 c1 f1 ∧ Outs m cl st w used used' Rt X r1 c1 f1
  | ts, [], used, used', ds, vs, fs, h, hv, hF => by
    have h : some (([] : List DV), used) = some (ds, used') := by cases ts <;> exact h
    simp only [Option.some.injEq, Prod.mk.injEq] at h
    obtain ⟨rfl, rfl⟩ := h
    simp only [AVL] at hv
    exact ⟨[], [], [], [], [], by simp only [Ds]; exact ⟨hv.1, trivial, trivial, trivial⟩, Outs.nil _ froz_nil⟩
  | [], x :: xs, used, used', ds, vs, fs, h, hv, hF => by simp [outs] at h
  | t :: ts, x :: xs, used, used', ds, vs, fs, h, hv, hF => by
    simp only [AVL] at hv
    obtain ⟨v, us, f, g, rfl, h1, h2, rfl⟩ := hv
    simp only [outs] at h
    split at h
    · rename_i d u hd
      split at h
      · rename_i ds' u' hds
        simp only [Option.some.injEq, Prod.mk.injEq] at h
        obtain ⟨rfl, rfl⟩ := h
        obtain ⟨R1, X1, r1, c1, f1, e1, e2⟩ := out1_ok R hd h1 (hF.sub (fun b hb => List.mem_append_left _ hb))
        obtain ⟨R2, X2, r2, c2, f2, e3, e4⟩ := outs_ok R hds h2 (hF.sub (fun b hb => List.mem_append_right _ hb))
        refine ⟨_, _, _, _, _, ?_, e2.append e4⟩
        simp only [Ds]
        exact ⟨v, us, r1, r2, c1, c2, f1, f2, rfl, e1, e3, rfl, rfl, rfl⟩
      · cases h
    · cases h
end
end Go.Den
end
section
namespace Go.Den
open Go
set_option linter.unusedSimpArgs false
set_option linter.unusedVariables false
section
variable {P : Program} {E : Env} {w0 w w' : World} {rs fs : List Nat} {cs : Cs} {m m' : Gm} {cl : Nat → List Nat} {fr fr' : Nat → Prop} {st : St} {tmps : Array Value}
def resOne (tmps : Array Value) : ResultVar → Sem Value
  | .tmp t => pure (tmps.getD t undef)
  | .cell a t => do loadVar t (← asAddr (tmps.getD a undef))
theorem resAV_ok (OK : EnvOK P E) (R : Rel w0 rs cs m cl fr st tmps w) : ∀ {rl : List ResultVar} {xs : List AV}, resAV E st rl = some xs →
    ∃ vs fs, AVL (st.mp m fr) w xs vs fs ∧ Froz m st w fs ∧ vs.length = rl.length ∧ ∀ acc, (List.mapM.loop (resOne tmps) rl acc).run P w = .ok (acc.reverse ++ vs) w
  | [], xs, h => by
    simp only [resAV, Option.some.injEq] at h
    subst h
    exact ⟨[], [], by simp [AVL], froz_nil, rfl, fun acc => by simp [List.mapM.loop, run_pure]⟩
  | .tmp t :: r, xs, h => by
    simp only [resAV] at h
    split at h
    · rename_i ys hr
      simp only [Option.some.injEq] at h
      subst h
      obtain ⟨vs, fs, h1, h2, h3, h4⟩ := resAV_ok OK R hr
      obtain ⟨f, h5, h6⟩ := R.tm t
      refine ⟨tmps.getD t undef :: vs, f ++ fs, ?_, fun b hb => (List.mem_append.1 hb).elim (h6 b) (h2 b), by simp [h3], fun acc => ?_⟩
      · simp only [AVL]; exact ⟨_, _, f, fs, rfl, h5, h1, rfl⟩
      · simp only [List.mapM.loop, resOne, run_bind, run_pure, h4]
        simp
    · cases h
  | .cell a t :: r, xs, h => by
    simp only [resAV] at h
    split at h
    · rename_i id j ti ys hb ht hr
      split at h
      · rename_i ty cells hob
        split at h
        · rename_i hle
          simp only [Option.some.injEq] at h
          subst h
          have hle' := Nat.le_of_ble_eq_true hle
          obtain ⟨vs, fs, h1, h2, h3, h4⟩ := resAV_ok OK R hr
          obtain ⟨i, z, d, hi, hs, _, _, _, hu, hag, _, hone⟩ := (tok_of (OK.tt t ti ht)).info
          obtain ⟨f0, h5, _⟩ := R.tm a
          rw [hb] at h5
          obtain ⟨b, hm, he⟩ := h5.2.2 _ _ hob
          obtain ⟨fs2, ⟨b2, av, e, hm2, hw, hL, hc⟩, hF, _⟩ := R.ob id _ hob
          have hbb : b2 = b := Option.some.inj (hm2.symm.trans hm)
          subst hbb
          obtain ⟨f, hL2, hsub⟩ := AVL_part hL j ti.size
          have hlen := AVL_length hL
          have hvl : ((av.drop j).take ti.size).length = ti.size := by simp; omega
          have hrun : (loadVar t ⟨b2, j, none⟩).run P w = .ok (valOf ti.agg ((av.drop j).take ti.size)) w :=
            run_loadVar hu hi hag (hvl.trans hs.symm) (fun hf => hs.trans (hone hf)) (fun q hq => by
              simp at hq
              rw [cell_box hw (by omega)]
              simp [List.getElem_take, List.getElem_drop])
          have hA := agv_ok hL2 (all_part hc _ _) (fun hf => by rw [← AVL_length hL2, hvl]; exact hone hf)
          refine ⟨valOf ti.agg ((av.drop j).take ti.size) :: vs, f ++ fs, ?_, fun b hb => (List.mem_append.1 hb).elim (hF.sub hsub b) (h2 b), by simp [h3], fun acc => ?_⟩
          · simp only [AVL]; exact ⟨_, _, f, fs, rfl, hA, h1, rfl⟩
          · simp only [List.mapM.loop, resOne, run_bind, run_pure, he, asAddr, hrun, h4]
            simp
        · cases h
      · cases h
    · cases h
theorem run_results (OK : EnvOK P E) (R : Rel w0 rs cs m cl fr st tmps w) {fn : Func} {xs : List AV} (h : resAV E st fn.results.toList = some xs) :
    ∃ vs fs, AVL (st.mp m fr) w xs vs fs ∧ Froz m st w fs ∧ (results fn tmps).run P w = .ok (match vs with | [v] => v | vs => .tuple ⟨vs⟩) w := by
  obtain ⟨vs, fs, h1, h2, h3, h4⟩ := resAV_ok OK R h
  refine ⟨vs, fs, h1, h2, ?_⟩
  have h5 := h4 []
  have e : results fn tmps = (do let vs ← fn.results.mapM (resOne tmps); pure (if h : vs.size = 1 then vs[0] else .tuple vs)) := by
    unfold results
    congr 1
  rw [e, run_bind]
  have h6 : (fn.results.mapM (resOne tmps)).run P w = .ok ⟨vs⟩ w := by
    rw [Array.mapM_eq_mapM_toList]
    show (Functor.map List.toArray (fn.results.toList.mapM (resOne tmps))).run P w = _
    rw [map_eq_pure_bind, run_bind]
    have : (fn.results.toList.mapM (resOne tmps)).run P w = .ok vs w := by simpa [List.mapM] using h5
    rw [this]
    simp [run_pure]
  rw [h6]
  simp only [run_pure]
  congr 1
  match vs with
  | [] => rfl
  | [v] => rfl
  | v :: u :: r => simp
end
end Go.Den
end
section
namespace Go.Den
open Go
set_option linter.unusedSimpArgs false
set_option linter.unusedVariables false
section
variable {P : Program} {E : Env} {w0 w w' : World} {rs fs : List Nat} {cs : Cs} {m m' : Gm} {cl : Nat → List Nat} {fr fr' : Nat → Prop} {st : St} {tmps : Array Value}
theorem outMuts_ok (R : Rel w0 rs cs m cl fr st tmps w) : ∀ {ds : List DV} {vs : List Value} {i0 : Nat} {ids used used' : List Nat} {ms : List (List DV)}, mutIds st i0 ds = some ids → vs.length = ds.length →
    (∀ t v, vs[t]? = some v → (∃ cells, ds[t]? = some (.mut cells)) → tmps.getD (i0 + t) undef = v) → outMuts E st ids used = some (ms, used') → ∃ Rt X r1 c1 f1, Ms w ds vs ms r1 c1 f1 ∧ Outs m cl st w used used' Rt X r1 c1 f1
  | [], vs, i0, ids, used, used', ms, h, hl, hv, ho => by
    simp only [mutIds, Option.some.injEq] at h
    subst h
    simp only [outMuts, Option.some.injEq, Prod.mk.injEq] at ho
    obtain ⟨rfl, rfl⟩ := ho
    exact ⟨[], [], [], [], [], by simp [Ms], Outs.nil _ froz_nil⟩
  | d :: ds, vs, i0, ids, used, used', ms, h, hl, hv, ho => by
    obtain ⟨v, us, rfl⟩ : ∃ v us, vs = v :: us := by
      cases vs with
      | nil => simp at hl
      | cons v us => exact ⟨v, us, rfl⟩
    have hl' : us.length = ds.length := by simpa using hl
    have hv' : ∀ t u, us[t]? = some u → (∃ cells, ds[t]? = some (.mut cells)) → tmps.getD (i0 + 1 + t) undef = u := fun t u hu hc => by
      have := hv (t + 1) u (by simpa using hu) (by simpa using hc)
      rwa [show i0 + (t + 1) = i0 + 1 + t from by omega] at this
    cases d with
    | «mut» cells0 =>
      simp only [mutIds] at h
      split at h
      · rename_i id hid
        split at h
        · rename_i l hl2
          simp only [Option.some.injEq] at h
          subst h
          simp only [outMuts] at ho
          split at ho
          · rename_i ty cells hb
            split at ho
            · rename_i hc
              simp only [Bool.and_eq_true, Bool.not_eq_true'] at hc
              split at ho
              · rename_i dsr u hds
                split at ho
                · rename_i m2 u2 hm2
                  simp only [Option.some.injEq, Prod.mk.injEq] at ho
                  obtain ⟨rfl, rfl⟩ := ho
                  obtain ⟨f, h5, _⟩ := R.tm i0
                  rw [hid] at h5
                  have hv0 := hv 0 v (by simp) ⟨cells0, by simp⟩
                  rw [Nat.add_zero] at hv0
                  rw [hv0] at h5
                  obtain ⟨R1, X1, r1, c1, f1, e1, e2⟩ := outBox_ok R hb hc.1 (any_in hc.2) hds h5
                  obtain ⟨R2, X2, r2, c2, f2, e3, e4⟩ := outMuts_ok R hl2 hl' hv' hm2
                  refine ⟨_, _, _, _, _, ?_, e2.append e4⟩
                  simp only [Ms]
                  exact ⟨v, us, dsr, m2, r1, r2, c1, c2, f1, f2, rfl, rfl, e1, e3, rfl, rfl, rfl⟩
                · cases ho
              · cases ho
            · cases ho
          · cases ho
        · cases h
      · cases h
    | ro d =>
      obtain ⟨R1, X1, r1, c1, f1, e1, e2⟩ := outMuts_ok R (ds := ds) (by simpa only [mutIds] using h) hl' hv' ho
      exact ⟨R1, X1, r1, c1, f1, by simpa only [Ms, List.tail_cons] using e1, e2⟩
    | own k t els =>
      obtain ⟨R1, X1, r1, c1, f1, e1, e2⟩ := outMuts_ok R (ds := ds) (by simpa only [mutIds] using h) hl' hv' ho
      exact ⟨R1, X1, r1, c1, f1, by simpa only [Ms, List.tail_cons] using e1, e2⟩
    | shal k t els =>
      obtain ⟨R1, X1, r1, c1, f1, e1, e2⟩ := outMuts_ok R (ds := ds) (by simpa only [mutIds] using h) hl' hv' ho
      exact ⟨R1, X1, r1, c1, f1, by simpa only [Ms, List.tail_cons] using e1, e2⟩
    | agg xs =>
      obtain ⟨R1, X1, r1, c1, f1, e1, e2⟩ := outMuts_ok R (ds := ds) (by simpa only [mutIds] using h) hl' hv' ho
      exact ⟨R1, X1, r1, c1, f1, by simpa only [Ms, List.tail_cons] using e1, e2⟩
    | tup xs =>
      obtain ⟨R1, X1, r1, c1, f1, e1, e2⟩ := outMuts_ok R (ds := ds) (by simpa only [mutIds] using h) hl' hv' ho
      exact ⟨R1, X1, r1, c1, f1, by simpa only [Ms, List.tail_cons] using e1, e2⟩
theorem outs_post (R : Rel w0 rs cs m cl fr st tmps w) {used' Rt X r1 c1 f1 : List Nat} (H : Outs m cl st w [] used' Rt X r1 c1 f1) :
    r1.Nodup ∧ (∀ b ∈ r1, b < w.heap.size ∧ (b ∈ rs ∨ w0.heap.size ≤ b)) ∧ c1.Nodup ∧ (∀ b ∈ c1, b ∈ rs ∨ b ∈ cs ∨ w0.heap.size ≤ b) ∧ ∀ b ∈ c1 ++ f1, (b < w.heap.size ∧ ¬ m.bad b) ∧ b ∉ r1 := by
  have hlive : ∀ i ∈ Rt, st.ob i ≠ none ∧ st.pm i = false := by
    intro i hi
    obtain ⟨_, _, hp, h | h⟩ := H.rt i hi
    · obtain ⟨k, d, els, h⟩ := h; exact ⟨by simp [h], hp⟩
    · obtain ⟨k, els, h⟩ := h; exact ⟨by simp [h], hp⟩
  have hr : ∀ b ∈ r1, ∃ i ∈ Rt, m i = some b := fun b hb => by
    obtain ⟨i, hi, hib⟩ := List.mem_filterMap.1 (H.rs.subset hb)
    exact ⟨i, hi, hib⟩
  have hc : ∀ b ∈ c1, ∃ i ∈ Rt, ∃ k els, st.ob i = some (.arr k true els) ∧ b ∈ cl i := fun b hb => by
    obtain ⟨i, hi, hib⟩ := List.mem_flatMap.1 (H.cs.subset hb)
    unfold clO at hib
    split at hib
    · rename_i k els ho; exact ⟨i, hi, k, els, ho, hib⟩
    · cases hib
  have hfz : ∀ i ∈ Rt, ∀ k els, st.ob i = some (.arr k true els) → Froz m st w (cl i) := by
    intro i hi k els ho
    obtain ⟨f, _, hf, hfc⟩ := R.ob i _ ho
    rw [hfc rfl (hlive i hi).2] at hf
    exact hf
  refine ⟨H.rs.nodup (fm_nodup H.nd (fun i hi j hj b h1 h2 => R.inj i j b (hlive i hi).1 (hlive j hj).1 h1 h2)), fun b hb => ?_, H.cs.nodup (flat_nodup H.nd (fun i hi => ?_) (fun i hi j hj hne b hb => ?_)), fun b hb => ?_, fun b hb => ?_⟩
  · obtain ⟨i, hi, hib⟩ := hr b hb
    exact R.mine i b (hlive i hi).1 hib
  · unfold clO
    split
    · rename_i ho; exact (R.cl1 i _ ho rfl (hlive i hi).2).1
    · simp
  · unfold clO at hb ⊢
    split at hb
    · rename_i ho
      split
      · rename_i ho'; exact R.cl2 i j _ _ ho ho' rfl rfl (hlive i hi).2 (hlive j hj).2 hne b hb
      · simp
    · cases hb
  · obtain ⟨i, hi, k, els, ho, hib⟩ := hc b hb
    exact (R.cl1 i _ ho rfl (hlive i hi).2).2 b hib
  · rcases List.mem_append.1 hb with hb | hb
    · obtain ⟨i, hi, k, els, ho, hib⟩ := hc b hb
      obtain ⟨h1, h2⟩ := hfz i hi k els ho b hib
      refine ⟨h1, fun h => ?_⟩
      obtain ⟨j, hj, hjb⟩ := hr b h
      exact h2 j (hlive j hj).1 (hlive j hj).2 hjb
    · obtain ⟨h1, h2⟩ := H.fs b hb
      refine ⟨h1, fun h => ?_⟩
      obtain ⟨j, hj, hjb⟩ := hr b h
      by_cases hx : j ∈ X
      · exact (H.x j hx).2.2 hj
      · exact h2 j hx (hlive j hj).1 (hlive j hj).2 hjb
theorem perm4 {a b : List Nat} : (a ++ b).Nodup ↔ (a ++ b).Nodup := Iff.rfl
theorem prot_spec : ∀ {ds : List DV} {i0 t : Nat}, t ∈ protOf i0 ds → i0 ≤ t ∧ t < i0 + ds.length ∧ True
  | [], i0, t, h => by simp [protOf] at h
  | d :: ds, i0, t, h => by
    have go : t ∈ protOf (i0 + 1) ds → i0 ≤ t ∧ t < i0 + (d :: ds).length ∧ True := fun h => by
      obtain ⟨h1, h2, _⟩ := prot_spec h
      exact ⟨by omega, by simp only [List.length_cons]; omega, trivial⟩
    cases d with
    | «mut» c =>
      simp only [protOf, List.mem_cons] at h
      rcases h with rfl | h
      · exact ⟨Nat.le_refl _, by simp, trivial⟩
      · exact go h
    | _ => exact go h
theorem prot_mem : ∀ {ds : List DV} {i0 t : Nat} {cells : List DV}, ds[t]? = some (.mut cells) → i0 + t ∈ protOf i0 ds
  | [], i0, t, cells, h => by simp at h
  | d :: ds, i0, 0, cells, h => by
    simp only [List.getElem?_cons_zero, Option.some.injEq] at h
    subst h
    simp [protOf]
  | d :: ds, i0, t + 1, cells, h => by
    have := prot_mem (ds := ds) (i0 := i0 + 1) (t := t) (cells := cells) (by simpa using h)
    rw [show i0 + 1 + t = i0 + (t + 1) from by omega] at this
    cases d with
    | «mut» c => simp only [protOf, List.mem_cons]; exact .inr this
    | _ => exact this
theorem denF_ok (OK : EnvOK P E) (hmix : P.follows .mixedOrders = true) {f : Nat} {fn : Func} {t : ST} {fin : Option Live} {n : Nat} (hf : P.funcs[f]? = some fn)
    (hN : fn.params.size + fn.nfree ≤ fn.ntmps) : Sound P f (denF E t fin fn n) := by
  intro ds ms r hF w args rs cs fs bad hp
  unfold denF at hF
  split at hF
  · cases hF
  · rename_i hlen
    have hlen := Nat.eq_of_beq_eq_true hlen
    have hal : args.size = fn.params.size + fn.nfree := by
      have := Ds_length hp.d
      simp at this
      omega
    split at hF
    · cases hF
    · rename_i c hb
      split at hF
      · cases hF
      rename_i hcode
      split at hF
      · cases hF
      · rename_i vs us nx hi
        obtain ⟨m, cl, R⟩ := Rel.start (n := fn.ntmps - args.size) hp hi
        refine calls_of_wp hf hb ?_
        have hOn : On args (protOf 0 ds) fn.ntmps { tmps := args ++ Array.replicate (fn.ntmps - args.size) undef, defers := [] } := by
          refine ⟨by simp; omega, fun t ht => ?_, rfl⟩
          have ht := (prot_spec ht).2.1
          rw [Array.getD_eq_getD_getElem?, Array.getD_eq_getD_getElem?, Array.getElem?_append_left (by omega)]
        refine den_ok (A := args) OK hmix hcode hF R hOn (fun e st0 a' w' m0 cl0 hK0 R0 hOn' => ?_)
        have fin1 : ∃ st' m' cl', endK E fn ds (fun m d => some (m, d)) e st' = some (ms, r) ∧ Rel w rs ⟨cs, bad⟩ m' cl' (fun id => st'.nx ≤ id) st' a'.tmps w' := by
          unfold finK at hK0
          split at hK0
          · exact ⟨st0, m0, cl0, hK0, R0⟩
          · obtain ⟨avs, obs, m3, cl3, h3, h4⟩ := canon_ok hK0 R0
            exact ⟨_, m3, cl3, h3, h4⟩
        obtain ⟨st', m', cl', hK, R'⟩ := fin1
        unfold endK at hK
        have main : (match mutIds st' 0 ds with
            | none => none
            | some ids => match outMuts E st' ids [] with
              | none => none
              | some (ms, used) => match resAV E st' fn.results.toList with
                | none => none
                | some rs => match rs with
                  | [r] => match fn.resultTypes.toList with
                    | [t] => match out1 E st' used t r with
                      | some (d, _) => some (ms, d)
                      | none => none
                    | _ => none
                  | rs => match outs E st' used fn.resultTypes.toList rs with
                    | some (ds, _) => some (ms, .tup ds)
                    | none => none) = some (ms, r) → ∃ v, (results fn a'.tmps).run P w' = .ok v w' ∧ ∃ rM cM fM rR cR fR, Post w rs cs bad ds args.toList ms r v w' rM cM fM rR cR fR := by
          intro hK
          split at hK
          · cases hK
          · rename_i ids hids
            split at hK
            · cases hK
            · rename_i ms' used hmu
              split at hK
              · cases hK
              · rename_i xs hxs
                obtain ⟨vs', fs', h1, h2, h3⟩ := run_results OK R' hxs
                obtain ⟨R1, X1, r1, c1, f1, e1, e2⟩ := outMuts_ok R' hids (Ds_length hp.d) (fun t v hv hcell => by
                  rw [Nat.zero_add]
                  have ht : t < args.size := by have := (List.getElem?_eq_some_iff.1 hv).1; simpa using this
                  rw [hOn'.keep t (by obtain ⟨cells, hc⟩ := hcell; simpa using prot_mem (i0 := 0) hc), Array.getD_eq_getD_getElem?]
                  have : args[t]? = some v := by rw [← Array.getElem?_toList]; exact hv
                  rw [this]; rfl) hmu
                have fin : ∀ {v : Value} {d : DV} {R2 X2 r2 c2 f2 used' : List Nat}, (results fn a'.tmps).run P w' = .ok v w' → DR w' d v r2 c2 f2 → Outs m' cl' st' w' used used' R2 X2 r2 c2 f2 → ms' = ms → d = r →
                    ∃ v, (results fn a'.tmps).run P w' = .ok v w' ∧ ∃ rM cM fM rR cR fR, Post w rs cs bad ds args.toList ms r v w' rM cM fM rR cR fR := by
                  intro v d R2 X2 r2 c2 f2 used' q1 q2 q3 q4 q5
                  subst q4; subst q5
                  obtain ⟨p1, p2, p3, p4, p5⟩ := outs_post R' (e2.append q3)
                  have hbad' : m'.bad = bad := R'.badEq
                  refine ⟨v, q1, r1, c1, f1, r2, c2, f2, ⟨R'.fram, e1, q2, p1, p2, p3, p4, fun b hb => ?_⟩⟩
                  have := p5 b hb
                  rw [hbad'] at this
                  exact this
                split at hK
                · rename_i x
                  split at hK
                  · split at hK
                    · rename_i d u hd
                      simp only [Option.some.injEq, Prod.mk.injEq] at hK
                      simp only [AVL] at h1
                      obtain ⟨v, us', f0, g0, rfl, q1, ⟨rfl, rfl⟩, rfl⟩ := h1
                      obtain ⟨R2, X2, r2, c2, f2, e3, e4⟩ := out1_ok R' hd q1 (h2.sub (fun b hb => by simp [hb]))
                      refine fin h3 ?_ e4 hK.1 hK.2
                      cases d <;> first | exact e3 | exact e3.elim
                    · cases hK
                  · cases hK
                · rename_i hne
                  split at hK
                  · rename_i dsr u hd
                    simp only [Option.some.injEq, Prod.mk.injEq] at hK
                    obtain ⟨R2, X2, r2, c2, f2, e3, e4⟩ := outs_ok R' hd h1 h2
                    have hvl := AVL_length h1
                    have h3' : (results fn a'.tmps).run P w' = .ok (.tuple ⟨vs'⟩) w' := by
                      rw [h3]
                      congr 1
                      match vs', hvl with
                      | [], _ => rfl
                      | [v], hvl =>
                        match xs, hvl with
                        | [x], _ => exact (hne x rfl).elim
                      | v :: u :: r, _ => rfl
                    exact fin (d := .tup dsr) h3' (show DR w' (.tup dsr) (.tuple ⟨vs'⟩) r2 c2 f2 from ⟨vs', rfl, e3⟩) e4 hK.1 hK.2
                  · cases hK
        cases e with
        | exit i => cases hK
        | normal =>
          obtain ⟨v, h1, h2⟩ := main hK
          exact ⟨hOn'.defers, v, h1, v, rfl, h2⟩
        | ret =>
          obtain ⟨v, h1, h2⟩ := main hK
          exact ⟨hOn'.defers, v, h1, v, rfl, h2⟩
end
end Go.Den
end
section
namespace Go.Den
open Go
set_option linter.unusedSimpArgs false
set_option linter.unusedVariables false
abbrev SmC := List DV → (List (List DV) → DV → Option FR) → Option FR
abbrev Cs2 := Nat → Option SmC
def LeC (S : SmC) (F : Sm) : Prop := ∀ args K r, S args K = some r → ∃ m d, F args = some (m, d) ∧ K m d = some r
def CsOK (E : Env) (C : Cs2) : Prop := ∀ g S, C g = some S → ∃ F, E.cs g = some F ∧ LeC S F
def Rq.runS {α : Type} (C : Cs2) (st : St) : Rq α → (α → List Nat → Option FR) → List Nat → Option FR
  | .ret a, K, l => K a l
  | .fail, _, _ => none
  | .tm t k, K, l => (k (st.tm t)).runS C st K ((3 * t + 2) :: l)
  | .ob id k, K, l => (k (st.ob id)).runS C st K ((3 * id) :: l)
  | .pm id k, K, l => (k (st.pm id)).runS C st K ((3 * id + 1) :: l)
  | .call f args k, K, l => match C f with
    | some S => S args fun m r => (k m r).runS C st K l
    | none => none
  | .ite b x y, K, l => match b with
    | true => x.runS C st K l
    | false => y.runS C st K l
theorem runS_le {α : Type} {E : Env} {C : Cs2} (hC : CsOK E C) {st : St} {r : FR} (q : Rq α) : ∀ {K K' : α → List Nat → Option FR} {l : List Nat}, (∀ a l, K a l = some r → K' a l = some r) → q.runS C st K l = some r → q.run E st K' l = some r := by
  induction q with
  | ret a => intro K K' l hK h; exact hK _ _ h
  | fail => intro K K' l hK h; cases h
  | tm t k ih => intro K K' l hK h; exact ih _ hK h
  | ob t k ih => intro K K' l hK h; exact ih _ hK h
  | pm t k ih => intro K K' l hK h; exact ih _ hK h
  | call f args k ih =>
    intro K K' l hK h
    simp only [Rq.runS] at h
    split at h
    · rename_i S hS
      obtain ⟨F, hF, hL⟩ := hC f S hS
      obtain ⟨m, d, h1, h2⟩ := hL _ _ _ h
      simp only [Rq.run, hF, h1]
      exact ih m d hK h2
    · cases h
  | ite c x y ihx ihy =>
    intro K K' l hK h
    cases c with
    | true => exact ihx hK h
    | false => exact ihy hK h
theorem runS_bind {α β : Type} {C : Cs2} {st : St} (q : Rq α) (f : α → Rq β) : ∀ (K : β → List Nat → Option FR) (l : List Nat), (q >>= f).runS C st K l = q.runS C st (fun a l => (f a).runS C st K l) l := by
  show ∀ K l, (Rq.bind q f).runS C st K l = _
  induction q with
  | ret a => intro K l; rfl
  | fail => intro K l; rfl
  | tm t k ih => intro K l; exact ih _ _ _
  | ob t k ih => intro K l; exact ih _ _ _
  | pm t k ih => intro K l; exact ih _ _ _
  | call f args k ih =>
    intro K l
    simp only [Rq.bind, Rq.runS]
    cases C f with
    | none => rfl
    | some S => simp only [ih]
  | ite c x y ihx ihy =>
    intro K l
    cases c with
    | true => exact ihx _ _
    | false => exact ihy _ _
theorem run_bindQ {α β R : Type} {E : Env} {st : St} (q : Rq α) (f : α → Rq β) : ∀ (K : β → List Nat → Option R) (l : List Nat), (q >>= f).run E st K l = q.run E st (fun a l => (f a).run E st K l) l := by
  show ∀ K l, (Rq.bind q f).run E st K l = _
  induction q with
  | ret a => intro K l; rfl
  | fail => intro K l; rfl
  | tm t k ih => intro K l; exact ih _ _ _
  | ob t k ih => intro K l; exact ih _ _ _
  | pm t k ih => intro K l; exact ih _ _ _
  | call f args k ih =>
    intro K l
    simp only [Rq.bind, Rq.run]
    cases E.cs f with
    | none => rfl
    | some F =>
      dsimp only
      cases F args with
      | none => rfl
      | some p => obtain ⟨m, r⟩ := p; exact ih _ _ _ _
  | ite c x y ihx ihy =>
    intro K l
    cases c with
    | true => exact ihx _ _
    | false => exact ihy _ _
variable {R : Type}
def req (b : Bool) (k : Option R) : Option R := match b with
  | true => k
  | false => none
theorem req_some {b : Bool} {k : Option R} {r : R} (h : req b k = some r) : b = true ∧ k = some r := by
  cases b with
  | true => exact ⟨rfl, h⟩
  | false => cases h
def view1 (z : Value) (d : RD) (K : RD → Option R) : Option R := match z with
  | .int k _ => match d with
    | .lit (.int k' n) => match k' == k with
      | true => K (.lit (.int k n))
      | false => none
    | _ => none
  | .string _ => match d with
    | .lit (.string s) => K (.lit (.string s))
    | _ => none
  | .bool _ => match d with
    | .lit (.bool b) => K (.lit (.bool b))
    | _ => none
  | .slice none 0 0 => match d with
    | .sl t els => K (.sl t els)
    | _ => none
  | _ => K d
def view : List Value → List RD → (List RD → Option R) → Option R
  | [], c, K => match c with
    | [] => K []
    | _ :: _ => none
  | z :: zs, c, K => match c with
    | d :: ds => view1 z d fun d' => view zs ds fun ds' => K (d' :: ds')
    | [] => none
theorem view1_some {z : Value} {d : RD} {K : RD → Option R} {r : R} (h : view1 z d K = some r) : K d = some r := by
  unfold view1 at h
  split at h
  · split at h
    · split at h
      · rename_i hk
        have := eq_of_beq hk
        subst this
        exact h
      · cases h
    · cases h
  · split at h
    · exact h
    · cases h
  · split at h
    · exact h
    · cases h
  · split at h
    · exact h
    · cases h
  · exact h
theorem view_some : ∀ {zs : List Value} {c : List RD} {K : List RD → Option R} {r : R}, view zs c K = some r → K c = some r ∧ c.length = zs.length
  | [], c, K, r, h => by
    unfold view at h
    split at h
    · exact ⟨h, rfl⟩
    · cases h
  | z :: zs, c, K, r, h => by
    unfold view at h
    split at h
    · obtain ⟨h1, h2⟩ := view_some (view1_some h)
      exact ⟨h1, by simp [h2]⟩
    · cases h
def at_ (zs : List Value) (els : List (List RD)) (i : Int) (K : List RD → Option R) : Option R := match decide (0 ≤ i) with
  | true => match els[i.toNat]? with
    | some c => view zs c K
    | none => none
  | false => none
theorem at_some {zs : List Value} {els : List (List RD)} {i : Int} {K : List RD → Option R} {r : R} (h : at_ zs els i K = some r) : ∃ c, 0 ≤ i ∧ els[i.toNat]? = some c ∧ K c = some r ∧ c.length = zs.length := by
  unfold at_ at h
  split at h
  · rename_i h0
    split at h
    · rename_i c hc
      obtain ⟨h1, h2⟩ := view_some h
      exact ⟨c, of_decide_eq_true h0, hc, h1, h2⟩
    · cases h
  · cases h
def part_ (zs : List Value) (els : List (List RD)) (i j n : Nat) (K : List RD → Option R) : Option R := match els[i]? with
  | some c => match Nat.ble (j + n) c.length with
    | true => view zs ((c.drop j).take n) K
    | false => none
  | none => none
theorem part_some {zs : List Value} {els : List (List RD)} {i j n : Nat} {K : List RD → Option R} {r : R} (h : part_ zs els i j n K = some r) : ∃ c, els[i]? = some c ∧ Nat.ble (j + n) c.length = true ∧ K ((c.drop j).take n) = some r := by
  unfold part_ at h
  split at h
  · rename_i c hc
    split at h
    · rename_i hl
      exact ⟨c, hc, hl, (view_some h).1⟩
    · cases h
  · cases h
def put_ (els : List (List RD)) (i j n : Nat) (K : List RD → Option R) : Option R := match els[i]? with
  | some c => match Nat.ble (j + n) c.length with
    | true => K c
    | false => none
  | none => none
theorem put_some {els : List (List RD)} {i j n : Nat} {K : List RD → Option R} {r : R} (h : put_ els i j n K = some r) : ∃ c, els[i]? = some c ∧ Nat.ble (j + n) c.length = true ∧ K c = some r := by
  unfold put_ at h
  split at h
  · rename_i c hc
    split at h
    · rename_i hl
      exact ⟨c, hc, hl, h⟩
    · cases h
  · cases h
def chr_ (s : ByteArray) (i : Int) (K : UInt8 → Option R) : Option R := match decide (0 ≤ i) with
  | true => match s[i.toNat]? with
    | some b => K b
    | none => none
  | false => none
theorem chr_some {s : ByteArray} {i : Int} {K : UInt8 → Option R} {r : R} (h : chr_ s i K = some r) : ∃ b, 0 ≤ i ∧ s[i.toNat]? = some b ∧ K b = some r := by
  unfold chr_ at h
  split at h
  · rename_i h0
    split at h
    · rename_i c hc
      exact ⟨c, of_decide_eq_true h0, hc, h⟩
    · cases h
  · cases h
def str_ (xs : List (List RD)) (K : List UInt8 → Option R) : Option R := match bytesOf xs with
  | some b => K b
  | none => none
def look_ (z : Value) (n : Int) (ents : List (Int × Value)) (K : RD → Option R) : Option R := match entLook n ents with
  | some v => view1 z (.lit v) K
  | none => K (.lit z)
def opdP (st : St) : Operand → AV
  | .tmp t => st.tm t
  | .const v => cst v
  | .func f => .rd (.fn f [])
  | .global _ => .bad
def opdL : Operand → List Nat → List Nat
  | .tmp t, l => (3 * t + 2) :: l
  | _, l => l
theorem opd_run {E : Env} {st : St} {x : Operand} {K : AV → List Nat → Option R} {l : List Nat} : (opd x).run E st K l = K (opdP st x) (opdL x l) := by
  cases x <;> rfl
theorem getI_run {E : Env} {st : St} {k : IntKind} {n : Int} {K : IntKind × Int → List Nat → Option R} {l : List Nat} : (getI (.rd (.lit (.int k n)))).run E st K l = K (k, n) l := rfl
theorem tt_run {E : Env} {st : St} {t : Nat} {ti : TInfo} (h : E.tt t = some ti) {K : TInfo → List Nat → Option R} {l : List Nat} : (tt E t).run E st K l = K ti l := by
  unfold tt; rw [h]; rfl
theorem need_run {E : Env} {st : St} {b : Bool} (h : b = true) {K : Unit → List Nat → Option R} {l : List Nat} : (need b).run E st K l = K () l := by
  subst h; rfl
def stepK (E : Env) (C : Cs2) (st : St) (nb : Nat) (o : Oper) (K : AV × List Upd → List Nat → Option FR) (l : List Nat) : Option FR :=
  match o.op with
  | .indexAddr t x i => match E.tt t, opdP st x, opdP st i with
    | some ⟨_, _, _, _, .slice e k _⟩, .rd (.sl _ els), .rd (.lit (.int _ n)) => match E.tt e with
      | some ei => req (Nat.beq ei.zero.length k) (at_ ei.zero els n fun c => K (.rd (.pt c), []) (opdL i (opdL x l)))
      | none => none
    | _, _, _ => (stepOp E nb o).runS C st K l
  | .load t a => match E.tt t, opdP st a with
    | some ti, .eref id i j => match st.ob id with
      | some (.arr _ _ els) => part_ ti.zero els i j ti.size fun ds => K (agv ti.agg (ds.map .rd), []) ((3 * id) :: opdL a l)
      | _ => none
    | _, _ => (stepOp E nb o).runS C st K l
  | .store t a x => match E.tt t, opdP st a with
    | some ti, .eref id i j => match st.ob id with
      | some (.arr k deep els) => req (Nat.beq (cellsOf (opdP st x)).length ti.size && Nat.ble (cellsOf (opdP st x)).length 60 && (cellsOf (opdP st x)).all isCell) (req (!st.pm id) (put_ els i j ti.size fun c =>
          (foldCs (cellsOf (opdP st x))).runS C st (fun p l => req (nodupB (id :: p.2.2)) (K (.tup [], sealU p.2.2 ++ [.ob id (some (.arr k (deep && p.2.1) (els.set i (splice c j p.1))))]) l)) ((3 * id + 1) :: (3 * id) :: opdL x (opdL a l))))
      | _ => none
    | _, _ => (stepOp E nb o).runS C st K l
  | .index t x i => match E.tt t, opdP st x, opdP st i with
    | some ⟨_, _, _, _, .str⟩, .rd (.lit (.string s)), .rd (.lit (.int _ n)) => chr_ s n fun b => K (.rd (.lit (.int .u8 b.toNat)), []) (opdL i (opdL x l))
    | _, _, _ => (stepOp E nb o).runS C st K l
  | .convert src dst x => match E.tt dst, E.tt src with
    | some ⟨_, _, _, _, .str⟩, some ⟨_, _, _, _, .slice e _ _⟩ => match E.tt e with
      | some ⟨_, _, _, _, .int .u8⟩ => (lstOf 1 false (opdP st x)).runS C st (fun p l => str_ p.1 fun b => K (.rd (.lit (.string ⟨b.toArray⟩)), []) l) (opdL x l)
      | _ => none
    | _, _ => (stepOp E nb o).runS C st K l
  | .lookup t x i false => match E.tt t, opdP st x, opdP st i with
    | some ⟨_, _, _, _, .map kk z⟩, .mref id, .rd (.lit (.int ik n)) => req (ik == kk && kk == .i64) (match st.ob id with
      | some (.map ents) => look_ z n ents fun d => K (.rd d, []) ((3 * id) :: opdL i (opdL x l))
      | _ => none)
    | _, _, _ => (stepOp E nb o).runS C st K l
  | _ => (stepOp E nb o).runS C st K l
section
variable {E : Env} {C : Cs2} {st : St} {nb : Nat} {o : Oper} {K K' : AV × List Upd → List Nat → Option FR} {l : List Nat} {r : FR}
theorem stepK_le (hC : CsOK E C) (hK : ∀ a l, K a l = some r → K' a l = some r) (h : stepK E C st nb o K l = some r) : (stepOp E nb o).run E st K' l = some r := by
  have fb : (stepOp E nb o).runS C st K l = some r → (stepOp E nb o).run E st K' l = some r := fun h => runS_le hC _ hK h
  unfold stepK at h
  split at h
  · rename_i t x i ho
    split at h
    · rename_i ti sz by_ ze ct e k eb t0 els kk n htt hx hi
      split at h
      · rename_i ei hei
        obtain ⟨hk, h⟩ := req_some h
        obtain ⟨c, h0, hc, h, hlen⟩ := at_some h
        have hlt : n < els.length := by
          have := (List.getElem?_eq_some_iff.1 hc).1
          omega
        simp only [stepOp, ho, run_bindQ, tt_run htt, opd_run, hx, hi, getI_run]
        rw [need_run (by simp [h0, hlt])]
        simp only [hc, run_bindQ]
        rw [need_run (by rw [hlen]; exact hk)]
        exact hK _ _ h
      · cases h
    · exact fb h
  · rename_i t a ho
    split at h
    · rename_i ti id i j htt ha
      split at h
      · rename_i k deep els hob
        obtain ⟨c, hc, hl, h⟩ := part_some h
        simp only [stepOp, ho, run_bindQ, tt_run htt, opd_run, ha, Rq.run, hob, hc]
        rw [need_run hl]
        exact hK _ _ h
      · cases h
    · exact fb h
  · rename_i t a x ho
    split at h
    · rename_i ti id i j htt ha
      split at h
      · rename_i k deep els hob
        obtain ⟨h1, h⟩ := req_some h
        obtain ⟨h2, h⟩ := req_some h
        obtain ⟨c, hc, hl, h⟩ := put_some h
        simp only [stepOp, ho, run_bindQ, tt_run htt, opd_run, ha]
        rw [need_run h1]
        simp only [Rq.run, hob, hc, run_bindQ]
        rw [need_run (by rw [h2, hl]; rfl)]
        refine runS_le hC _ (fun p l h => ?_) h
        obtain ⟨h3, h⟩ := req_some h
        obtain ⟨ds, b, sl⟩ := p
        rw [need_run h3]
        exact hK _ _ h
      · cases h
    · exact fb h
  · rename_i t x i ho
    split at h
    · rename_i sz by_ ze ct s0 kk n htt hx hi
      obtain ⟨b, h0, hb, h⟩ := chr_some h
      simp only [stepOp, ho, run_bindQ, tt_run htt, opd_run, hx, hi, getI_run]
      rw [need_run (by simp [h0])]
      simp only [hb]
      exact hK _ _ h
    · exact fb h
  · rename_i src dst x ho
    split at h
    · rename_i s1 b1 z1 c1 s2 b2 z2 c2 e k eb hdst hsrc
      split at h
      · rename_i s3 b3 z3 c3 he
        simp only [stepOp, ho, run_bindQ, tt_run hdst, tt_run hsrc, opd_run, tt_run he]
        refine runS_le hC _ (fun p l h => ?_) h
        obtain ⟨xs, d, q⟩ := p
        unfold str_ at h
        simp only at h ⊢
        split at h
        · rename_i b hb
          simp only [hb]
          exact hK _ _ h
        · cases h
      · cases h
    · exact fb h
  · rename_i t x i ho
    split at h
    · rename_i sz by_ ze ct kk z id ik n htt hx hi
      obtain ⟨h1, h⟩ := req_some h
      split at h
      · rename_i ents hob
        simp only [stepOp, ho, run_bindQ, tt_run htt, opd_run, hx, hi, getI_run]
        rw [need_run h1]
        simp only [Rq.run, hob]
        unfold look_ at h
        split at h
        · rename_i v hv
          simp only [hv]
          exact hK _ _ (view1_some h)
        · rename_i hv
          simp only [hv]
          exact hK _ _ h
      · cases h
    · exact fb h
  · exact fb h
end
def splitB (v : AV) (K : AV → Option R) : Option R := match v with
  | .rd (.lit (.bool b)) => match b with
    | true => K (.rd (.lit (.bool true)))
    | false => K (.rd (.lit (.bool false)))
  | v => K v
theorem splitB_eq {v : AV} {K : AV → Option R} : splitB v K = K v := by
  unfold splitB
  split
  · rename_i b; cases b <;> rfl
  · rfl
def runOpsS (E : Env) (C : Cs2) (ops : Array Oper) (nb : Nat) : List (Oper × Nat) → St → List Lg → (St → List Lg → Option FR) → Option FR
  | [], st, l, K => K st l
  | (o, i) :: r, st, l, K => match o.guard with
    | none => stepK E C st (nb + 64 * i) o (fun (v, us) rs => splitB v fun v => runOpsS E C ops nb r ((st.upds us).set o.dst v) (⟨i, rs, wsOf o.dst us⟩ :: l) K) []
    | some (g, want) => match (ops[g]?).bind (·.dst) with
      | some t => match st.tm t with
        | .rd (.lit (.bool b)) => match eqB want b with
          | true => stepK E C st (nb + 64 * i) o (fun (v, us) rs => splitB v fun v => runOpsS E C ops nb r ((st.upds us).set o.dst v) (⟨i, rs, wsOf o.dst us⟩ :: l) K) [3 * t + 2]
          | false => runOpsS E C ops nb r (st.set o.dst (.tup [])) (⟨i, [3 * t + 2], wsOf o.dst []⟩ :: l) K
        | .tup _ => runOpsS E C ops nb r (st.set o.dst (.tup [])) (⟨i, [3 * t + 2], wsOf o.dst []⟩ :: l) K
        | _ => none
      | none => none
theorem runOpsS_le {E : Env} {C : Cs2} (hC : CsOK E C) {ops : Array Oper} {nb : Nat} {r : FR} {K K' : St → List Lg → Option FR} (hK : ∀ st l, K st l = some r → K' st l = some r) :
    ∀ {os : List (Oper × Nat)} {st : St} {l : List Lg}, runOpsS E C ops nb os st l K = some r → runOps E ops nb os st l K' = some r
  | [], st, l, h => hK _ _ h
  | (o, i) :: os, st, l, h => by
    have go : ∀ l0, stepK E C st (nb + 64 * i) o (fun (v, us) rs => splitB v fun v => runOpsS E C ops nb os ((st.upds us).set o.dst v) (⟨i, rs, wsOf o.dst us⟩ :: l) K) l0 = some r →
        (stepOp E (nb + 64 * i) o).run E st (fun (v, us) rs => runOps E ops nb os ((st.upds us).set o.dst v) (⟨i, rs, wsOf o.dst us⟩ :: l) K') l0 = some r := fun l0 h =>
      stepK_le hC (fun a l' h => by
        obtain ⟨v, us⟩ := a
        simp only [splitB_eq] at h
        exact runOpsS_le hC hK h) h
    unfold runOpsS at h
    unfold runOps
    split at h
    · rename_i hg
      simp only [hg]
      exact go _ h
    · rename_i g want hg
      simp only [hg]
      split at h
      · rename_i t ht
        simp only [ht]
        split at h
        · rename_i b hb
          simp only [hb]
          split at h
          · rename_i hw
            simp only [hw]
            exact go _ h
          · rename_i hw
            simp only [hw]
            exact runOpsS_le hC hK h
        · rename_i hb
          simp only [hb]
          exact runOpsS_le hC hK h
        · cases h
      · cases h
def denRegionS (E : Env) (C : Cs2) (ops : Array Oper) (draw : Bool) (st : St) (K : St → Option FR) : Option FR :=
  runOpsS E C ops st.nx ops.toList.zipIdx st [] fun st' l => match draw with
    | false => K { st' with nx := st.nx + 64 * ops.size }
    | true => match logOk (befL ops.toList []) l with
      | true => K { st' with nx := st.nx + 64 * ops.size }
      | false => none
theorem denRegionS_le {E : Env} {C : Cs2} (hC : CsOK E C) {ops : Array Oper} {draw : Bool} {st : St} {r : FR} {K K' : St → Option FR} (hK : ∀ st, K st = some r → K' st = some r) (h : denRegionS E C ops draw st K = some r) : denRegion E ops draw st K' = some r := by
  unfold denRegionS at h
  unfold denRegion
  refine runOpsS_le hC (fun st l h => ?_) h
  cases draw with
  | false => exact hK _ h
  | true =>
    simp only at h ⊢
    split at h
    · rename_i hl; simp only [hl]; exact hK _ h
    · cases h
end Go.Den
end
section
namespace Go.Den
open Go
set_option linter.unusedSimpArgs false
set_option linter.unusedVariables false
def nodeS (E : Env) (t : ST) (run : St → (Ex → St → Option FR) → Option FR) (st : St) (K : Ex → St → Option FR) : Option FR :=
  match t.h with
  | none => run st K
  | some h => canon E h.live st fun avs obs => match t.s with
    | none => run (mkSt h.live avs obs) fun e st2 => outK E h.outs e st2 fun _ _ st3 => K e st3
    | some S => S avs obs fun e avs' obs' => match outAt h.outs (exKey e) with
      | some live => K e (mkSt live avs' obs')
      | none => none
def denLoopS (E : Env) (hint : Option Live) (F : St → (Ex → St → Option FR) → Option FR) : Nat → St → (Ex → St → Option FR) → Option FR
  | 0, _, _ => none
  | n + 1, st, K => F st fun e st' => match e with
      | .normal => match hint with
        | some live => canon E live st' fun avs obs => denLoopS E hint F n (mkSt live avs obs) K
        | none => denLoopS E hint F n st' K
      | .exit i => K (.exit i) st'
      | .ret => K .ret st'
def denS (E : Env) (C : Cs2) (n : Nat) : Code → ST → St → (Ex → St → Option FR) → Option FR
  | .skip, _, st, K => K .normal st
  | .region _ ops draw, _, st, K => denRegionS E C ops draw st (K .normal)
  | .seq a b, t, st, K => nodeS E t (fun st K => denS E C n a t.l st fun e st' => match e with
    | .normal => denS E C n b t.r st' K
    | .exit i => K (.exit i) st'
    | .ret => K .ret st') st K
  | .cond c a b, t, st, K => nodeS E t (fun st K => (opd c >>= getB).runS C st (fun x _ => match x with
    | true => denS E C n a t.l st K
    | false => denS E C n b t.r st K) []) st K
  | .block id b, t, st, K => nodeS E t (fun st K => denS E C n b t.l st fun e st' => match e with
    | .exit i => match Nat.beq i id with
      | true => K .normal st'
      | false => K (.exit i) st'
    | .normal => K .normal st'
    | .ret => K .ret st') st K
  | .loop b, t, st, K => nodeS E t (fun st K => denLoopS E (hLive t.h) (denS E C n b t.l) n st K) st K
  | .exit id, _, st, K => K (.exit id) st
  | .ret, _, st, K => K .ret st
  | _, _, _, _ => none
def LeK (K K' : Ex → St → Option FR) : Prop := ∀ e st r, K e st = some r → K' e st = some r
def SgOK (E : Env) (t : ST) (run : St → (Ex → St → Option FR) → Option FR) : Prop :=
  ∀ h S, t.h = some h → t.s = some S → ∀ avs obs (K K' : Ex → St → Option FR) r, LeK K K' → S avs obs (fun e a o => match outAt h.outs (exKey e) with
      | some live => K e (mkSt live a o)
      | none => none) = some r → run (mkSt h.live avs obs) (fun e st2 => outK E h.outs e st2 fun _ _ st3 => K' e st3) = some r
def Valid (E : Env) (n : Nat) : ST → Code → Prop
  | .o, _ => True
  | .n h s x y, c => match c with
    | .seq a b => (Valid E n x a ∧ Valid E n y b) ∧ SgOK E (.n h s x y) (fun st K => den E n a x st fun e st' => match e with
      | .normal => den E n b y st' K
      | .exit i => K (.exit i) st'
      | .ret => K .ret st')
    | .cond c a b => (Valid E n x a ∧ Valid E n y b) ∧ SgOK E (.n h s x y) (fun st K => (opd c >>= getB).run E st (fun v _ => match v with
      | true => den E n a x st K
      | false => den E n b y st K) [])
    | .block id b => Valid E n x b ∧ SgOK E (.n h s x y) (fun st K => den E n b x st fun e st' => match e with
      | .exit i => match Nat.beq i id with
        | true => K .normal st'
        | false => K (.exit i) st'
      | .normal => K .normal st'
      | .ret => K .ret st')
    | .loop b => Valid E n x b ∧ SgOK E (.n h s x y) (fun st K => denLoop E (hLive h) (den E n b x) n st K)
    | _ => True
theorem canon_le {E : Env} {live : Live} {st : St} {K K' : List AV → List OB → Option FR} {r : FR} (hK : ∀ a o, K a o = some r → K' a o = some r) (h : canon E live st K = some r) : canon E live st K' = some r := by
  unfold canon at h ⊢
  split at h
  · unfold canonF canonW at h ⊢
    split at h
    · exact hK _ _ h
    · cases h
  · cases h
theorem outK_le {E : Env} {outs : List (Nat × Live)} {K K' : Ex → St → Option FR} (hK : LeK K K') : LeK (fun e st2 => outK E outs e st2 fun _ _ st3 => K e st3) (fun e st2 => outK E outs e st2 fun _ _ st3 => K' e st3) := by
  intro e st r h
  simp only [outK] at h ⊢
  split at h
  · exact canon_le (fun a o h => hK _ _ _ h) h
  · cases h
theorem nodeS_le {E : Env} {t : ST} {runS run : St → (Ex → St → Option FR) → Option FR} (hv : SgOK E t run) (H : ∀ st K K' r, LeK K K' → runS st K = some r → run st K' = some r) {st : St} {K K' : Ex → St → Option FR} {r : FR} (hK : LeK K K')
    (h : nodeS E t runS st K = some r) : nodeK E t.h run st K' = some r := by
  unfold nodeS at h
  unfold nodeK
  split at h
  · rename_i ht
    simp only [ht]
    exact H _ _ _ _ hK h
  · rename_i hh ht
    simp only [ht]
    refine canon_le (fun a o h => ?_) h
    split at h
    · exact H _ _ _ _ (outK_le hK) h
    · rename_i S hS
      exact hv hh S ht hS a o K K' r hK h
theorem denLoopS_le {E : Env} {hint : Option Live} {F G : St → (Ex → St → Option FR) → Option FR} (H : ∀ st K K' r, LeK K K' → F st K = some r → G st K' = some r) :
    ∀ n {st : St} {K K' : Ex → St → Option FR} {r : FR}, LeK K K' → denLoopS E hint F n st K = some r → denLoop E hint G n st K' = some r
  | 0, st, K, K', r, hK, h => by cases h
  | n + 1, st, K, K', r, hK, h => by
    simp only [denLoopS] at h
    simp only [denLoop]
    refine H _ _ _ _ (fun e st r h => ?_) h
    cases e with
    | normal =>
      simp only at h ⊢
      split at h
      · exact canon_le (fun a o h => denLoopS_le H n hK h) h
      · exact denLoopS_le H n hK h
    | exit i => exact hK _ _ _ h
    | ret => exact hK _ _ _ h
theorem denS_le {E : Env} {C : Cs2} (hC : CsOK E C) {n : Nat} : ∀ {c : Code} {t : ST}, Valid E n t c → ∀ {st : St} {K K' : Ex → St → Option FR} {r : FR}, LeK K K' → denS E C n c t st K = some r → den E n c t st K' = some r
  | .skip, t, _, st, K, K', r, hK, h => hK _ _ _ h
  | .region _ ops draw, t, _, st, K, K', r, hK, h => denRegionS_le hC (fun st h => hK _ _ _ h) h
  | .seq a b, t, hv, st, K, K', r, hK, h => by
    have hv : (Valid E n t.l a ∧ Valid E n t.r b) ∧ SgOK E t (fun st K => den E n a t.l st fun e st' => match e with
      | .normal => den E n b t.r st' K
      | .exit i => K (.exit i) st'
      | .ret => K .ret st') := by
      cases t with
      | o => exact ⟨⟨trivial, trivial⟩, fun h S hh => by cases hh⟩
      | n _ _ _ _ => exact hv
    simp only [denS] at h
    simp only [den]
    refine nodeS_le hv.2 (fun st K K' r hK h => denS_le hC hv.1.1 (fun e st r h => ?_) h) hK h
    cases e with
    | normal => exact denS_le hC hv.1.2 hK h
    | exit i => exact hK _ _ _ h
    | ret => exact hK _ _ _ h
  | .cond c a b, t, hv, st, K, K', r, hK, h => by
    have hv : (Valid E n t.l a ∧ Valid E n t.r b) ∧ SgOK E t (fun st K => (opd c >>= getB).run E st (fun v _ => match v with
      | true => den E n a t.l st K
      | false => den E n b t.r st K) []) := by
      cases t with
      | o => exact ⟨⟨trivial, trivial⟩, fun h S hh => by cases hh⟩
      | n _ _ _ _ => exact hv
    simp only [denS] at h
    simp only [den]
    refine nodeS_le hv.2 (fun st K K' r hK h => runS_le hC _ (fun x l h => ?_) h) hK h
    cases x with
    | true => exact denS_le hC hv.1.1 hK h
    | false => exact denS_le hC hv.1.2 hK h
  | .block id b, t, hv, st, K, K', r, hK, h => by
    have hv : Valid E n t.l b ∧ SgOK E t (fun st K => den E n b t.l st fun e st' => match e with
      | .exit i => match Nat.beq i id with
        | true => K .normal st'
        | false => K (.exit i) st'
      | .normal => K .normal st'
      | .ret => K .ret st') := by
      cases t with
      | o => exact ⟨trivial, fun h S hh => by cases hh⟩
      | n _ _ _ _ => exact hv
    simp only [denS] at h
    simp only [den]
    refine nodeS_le hv.2 (fun st K K' r hK h => denS_le hC hv.1 (fun e st r h => ?_) h) hK h
    cases e with
    | normal => exact hK _ _ _ h
    | exit i =>
      simp only at h ⊢
      split at h
      · exact hK _ _ _ h
      · exact hK _ _ _ h
    | ret => exact hK _ _ _ h
  | .loop b, t, hv, st, K, K', r, hK, h => by
    have hv : Valid E n t.l b ∧ SgOK E t (fun st K => denLoop E (hLive t.h) (den E n b t.l) n st K) := by
      cases t with
      | o => exact ⟨trivial, fun h S hh => by cases hh⟩
      | n _ _ _ _ => exact hv
    simp only [denS] at h
    simp only [den]
    exact nodeS_le (run := fun st K => denLoop E (hLive t.h) (den E n b t.l) n st K) hv.2 (fun st K K' r hK h => denLoopS_le (G := den E n b t.l) (fun st K K' r hK h => denS_le hC hv.1 hK h) n hK h) hK h
  | .exit id, t, _, st, K, K', r, hK, h => hK _ _ _ h
  | .ret, t, _, st, K, K', r, hK, h => hK _ _ _ h
  | .rangeFunc .., t, _, st, K, K', r, hK, h => by simp [denS] at h
  | .scope .., t, _, st, K, K', r, hK, h => by simp [denS] at h
  | .label .., t, _, st, K, K', r, hK, h => by simp [denS] at h
  | .goto .., t, _, st, K, K', r, hK, h => by simp [denS] at h
theorem sg_none {E : Env} {s : Option Sg} {x y : ST} {run : St → (Ex → St → Option FR) → Option FR} : SgOK E (.n none s x y) run := fun _ _ h => by cases h
theorem loop_sg {E : Env} {C : Cs2} (hC : CsOK E C) {n : Nat} {b : Code} {h : Hint} {S : Sg} {x y : ST} {I V : Type} (dec : List AV → List OB → Option (I × V)) (encA : I → V → List AV) (encO : I → V → List OB)
    (hdec : ∀ a o p v, dec a o = some (p, v) → a = encA p v ∧ o = encO p v)
    (B : (Ex → List AV → List OB → Option FR) → I → (V → Option FR) → V → Option FR)
    (L : (Ex → List AV → List OB → Option FR) → I → Nat → V → Option FR) (hL0 : ∀ K p v, L K p 0 v = none) (hL : ∀ K p n v, L K p (n + 1) v = B K p (L K p n) v)
    (hS : S = fun a o K => match dec a o with | some (p, v) => L K p n v | none => none)
    (hx : Valid E n x b)
    (step : ∀ (K : Ex → List AV → List OB → Option FR) (rc : List AV → List OB → Option FR) p v, denS E C n b x (mkSt h.live (encA p v) (encO p v)) (fun e st' => match e with
        | .normal => canon E h.live st' rc
        | .exit i => outK E h.outs (.exit i) st' fun a o _ => K (.exit i) a o
        | .ret => outK E h.outs .ret st' fun a o _ => K .ret a o) = B K p (fun v' => rc (encA p v') (encO p v')) v) :
    SgOK E (.n (some h) (some S) x y) (fun st K => denLoop E (hLive (some h)) (den E n b x) n st K) := by
  intro h' S' hh hs a o K K' r hK hr
  cases hh; cases hs
  rw [hS] at hr
  simp only at hr
  split at hr
  · rename_i p v hv
    obtain ⟨rfl, rfl⟩ := hdec a o p v hv
    have key : ∀ m v, denLoopS E (some h.live) (denS E C n b x) m (mkSt h.live (encA p v) (encO p v)) (fun e st2 => outK E h.outs e st2 fun _ _ st3 => K e st3) = L (fun e a o => match outAt h.outs (exKey e) with
      | some live => K e (mkSt live a o)
      | none => none) p m v := by
      intro m
      induction m with
      | zero => intro v; rw [hL0]; rfl
      | succ m ih =>
        intro v
        have := step (fun e a o => match outAt h.outs (exKey e) with
          | some live => K e (mkSt live a o)
          | none => none) (fun a o => denLoopS E (some h.live) (denS E C n b x) m (mkSt h.live a o) (fun e st2 => outK E h.outs e st2 fun _ _ st3 => K e st3)) p v
        rw [show (fun v' => denLoopS E (some h.live) (denS E C n b x) m (mkSt h.live (encA p v') (encO p v')) (fun e st2 => outK E h.outs e st2 fun _ _ st3 => K e st3)) = L (fun e a o => match outAt h.outs (exKey e) with
          | some live => K e (mkSt live a o)
          | none => none) p m from funext ih] at this
        rw [hL]
        refine Eq.trans ?_ this
        simp only [denLoopS]
        congr 1
        funext e st'
        have ou : ∀ e st', outK E h.outs e st' (fun _ _ st3 => K e st3) = outK E h.outs e st' (fun a o _ => match outAt h.outs (exKey e) with
          | some live => K e (mkSt live a o)
          | none => none) := by
          intro e st'
          unfold outK
          cases ho : outAt h.outs (exKey e) with
          | none => rfl
          | some live => rfl
        cases e with
        | normal => rfl
        | exit i => exact ou (.exit i) st'
        | ret => exact ou .ret st'
    exact denLoopS_le (F := denS E C n b x) (G := den E n b x) (fun st K K' r hK h => denS_le hC hx hK h) n (outK_le hK) ((key n v).trans hr)
  · cases hr
theorem node_sg {E : Env} {runS run : St → (Ex → St → Option FR) → Option FR} (H : ∀ st K K' r, LeK K K' → runS st K = some r → run st K' = some r) {h : Hint} {S : Sg} {x y : ST} {I : Type} (dec : List AV → List OB → Option I) (encA : I → List AV) (encO : I → List OB)
    (hdec : ∀ a o p, dec a o = some p → a = encA p ∧ o = encO p) (J : (Ex → List AV → List OB → Option FR) → I → Option FR)
    (hS : S = fun a o K => match dec a o with | some p => J K p | none => none)
    (step : ∀ (K : Ex → List AV → List OB → Option FR) p, runS (mkSt h.live (encA p) (encO p)) (fun e st' => outK E h.outs e st' fun a o _ => K e a o) = J K p) :
    SgOK E (.n (some h) (some S) x y) run := by
  intro h' S' hh hs a o K K' r hK hr
  cases hh; cases hs
  rw [hS] at hr
  simp only at hr
  split at hr
  · rename_i p hp
    obtain ⟨rfl, rfl⟩ := hdec a o p hp
    refine H _ _ _ _ (outK_le hK) ?_
    refine Eq.trans ?_ hr
    refine Eq.trans ?_ (step _ p)
    congr 1
    funext e st'
    unfold outK
    cases ho : outAt h.outs (exKey e) with
    | none => rfl
    | some live => rfl
  · cases hr
theorem seq_sg {E : Env} {C : Cs2} (hC : CsOK E C) {n : Nat} {a b : Code} {h : Hint} {S : Sg} {x y : ST} {I : Type} (dec : List AV → List OB → Option I) (encA : I → List AV) (encO : I → List OB)
    (hdec : ∀ a o p, dec a o = some p → a = encA p ∧ o = encO p) (J : (Ex → List AV → List OB → Option FR) → I → Option FR)
    (hS : S = fun a o K => match dec a o with | some p => J K p | none => none) (hx : Valid E n x a) (hy : Valid E n y b)
    (step : ∀ (K : Ex → List AV → List OB → Option FR) p, denS E C n (.seq a b) (.n none none x y) (mkSt h.live (encA p) (encO p)) (fun e st' => outK E h.outs e st' fun a o _ => K e a o) = J K p) :
    SgOK E (.n (some h) (some S) x y) (fun st K => den E n a x st fun e st' => match e with
      | .normal => den E n b y st' K
      | .exit i => K (.exit i) st'
      | .ret => K .ret st') := by
  refine node_sg (runS := fun st K => denS E C n (.seq a b) (.n none none x y) st K) (fun st K K' r hK h => ?_) dec encA encO hdec J hS step
  refine denS_le hC hx (fun e st r h => ?_) h
  cases e with
  | normal => exact denS_le hC hy hK h
  | exit i => exact hK _ _ _ h
  | ret => exact hK _ _ _ h
end Go.Den
end
section
namespace Go.Den
open Go
set_option linter.unusedSimpArgs false
set_option linter.unusedVariables false
def denFS (E : Env) (C : Cs2) (t : ST) (fin : Option Live) (fn : Func) (n : Nat) : SmC := fun args K =>
  match Nat.beq args.length (fn.params.size + fn.nfree) with
  | false => none
  | true => match fn.body with
    | none => none
    | some c => match codeOk (protOf 0 args) fn.ntmps c with
     | false => none
     | true => match importMany 0 0 args with
      | none => none
      | some (vs, us, nx) =>
        denS E C n c t { ({ tm := tmOf vs, ob := fun _ => none, pm := fun _ => false, nx := nx } : St).upds us with nx := nx } fun e st => finK E fin e st (endK E fn args K)
def endF (E : Env) (fn : Func) (args : List DV) (e : Ex) (st : St) : Option FR := endK E fn args (fun m d => some (m, d)) e st
theorem endK_eq {E : Env} {fn : Func} {args : List DV} {K : List (List DV) → DV → Option FR} {e : Ex} {st : St} {r : FR} (h : endK E fn args K e st = some r) : ∃ m d, endF E fn args e st = some (m, d) ∧ K m d = some r := by
  unfold endF
  unfold endK at h ⊢
  split at h
  · cases h
  · rename_i hne
    split at h
    · cases h
    · split at h
      · cases h
      · split at h
        · cases h
        · split at h
          · split at h
            · split at h
              · rename_i d _ hd
                exact ⟨_, d, rfl, h⟩
              · cases h
            · cases h
          · rename_i hnr
            split at h
            · rename_i ds _ hd
              exact ⟨_, .tup ds, rfl, h⟩
            · cases h
theorem run_det {α R : Type} {E : Env} {st : St} (q : Rq α) : ∀ {K : α → List Nat → Option R} {l : List Nat} {r : R}, q.run E st K l = some r → ∃ a l', K a l' = some r ∧ ∀ (R' : Type) (K' : α → List Nat → Option R'), q.run E st K' l = K' a l' := by
  induction q with
  | ret a => intro K l r h; exact ⟨a, l, h, fun _ _ => rfl⟩
  | fail => intro K l r h; cases h
  | tm t k ih => intro K l r h; exact ih _ h
  | ob t k ih => intro K l r h; exact ih _ h
  | pm t k ih => intro K l r h; exact ih _ h
  | call f args k ih =>
    intro K l r h
    simp only [Rq.run] at h
    split at h
    · rename_i F hF
      split at h
      · rename_i m d hd
        obtain ⟨a, l', h1, h2⟩ := ih m d h
        refine ⟨a, l', h1, fun R' K' => ?_⟩
        simp only [Rq.run, hF, hd]
        exact h2 R' K'
      · cases h
    · cases h
  | ite c x y ihx ihy =>
    intro K l r h
    cases c with
    | true => exact ihx h
    | false => exact ihy h
theorem runOps_det {R : Type} {E : Env} {ops : Array Oper} {nb : Nat} : ∀ {os : List (Oper × Nat)} {st : St} {l : List Lg} {K : St → List Lg → Option R} {r : R}, runOps E ops nb os st l K = some r →
    ∃ st' l', K st' l' = some r ∧ ∀ (R' : Type) (K' : St → List Lg → Option R'), runOps E ops nb os st l K' = K' st' l'
  | [], st, l, K, r, h => ⟨st, l, h, fun _ _ => rfl⟩
  | (o, i) :: os, st, l, K, r, h => by
    have go : ∀ l0, (stepOp E (nb + 64 * i) o).run E st (fun (v, us) rs => runOps E ops nb os ((st.upds us).set o.dst v) (⟨i, rs, wsOf o.dst us⟩ :: l) K) l0 = some r →
        ∃ st' l', K st' l' = some r ∧ ∀ (R' : Type) (K' : St → List Lg → Option R'), (stepOp E (nb + 64 * i) o).run E st (fun (v, us) rs => runOps E ops nb os ((st.upds us).set o.dst v) (⟨i, rs, wsOf o.dst us⟩ :: l) K') l0 = K' st' l' := by
      intro l0 h
      obtain ⟨⟨v, us⟩, l', h1, h2⟩ := run_det _ h
      obtain ⟨st', l'', h3, h4⟩ := runOps_det h1
      exact ⟨st', l'', h3, fun R' K' => by rw [h2]; exact h4 R' K'⟩
    unfold runOps at h ⊢
    split at h
    · exact go _ h
    · split at h
      · split at h
        · split at h
          · exact go _ h
          · exact runOps_det h
        · exact runOps_det h
        · cases h
      · cases h
theorem denRegion_det {R : Type} {E : Env} {ops : Array Oper} {draw : Bool} {st : St} {K : St → Option R} {r : R} (h : denRegion E ops draw st K = some r) : ∃ st', K st' = some r ∧ ∀ (R' : Type) (K' : St → Option R'), denRegion E ops draw st K' = K' st' := by
  unfold denRegion at h ⊢
  obtain ⟨st', l', h1, h2⟩ := runOps_det h
  split at h1
  · exact ⟨_, h1, fun R' K' => by rw [h2]⟩
  · split at h1
    · rename_i hl
      exact ⟨_, h1, fun R' K' => by rw [h2]; simp only [hl]⟩
    · cases h1
theorem canon_det {R : Type} {E : Env} {live : Live} {st : St} {K : List AV → List OB → Option R} {r : R} (h : canon E live st K = some r) : ∃ a o, K a o = some r ∧ ∀ (R' : Type) (K' : List AV → List OB → Option R'), canon E live st K' = K' a o := by
  unfold canon at h ⊢
  split at h
  · unfold canonF canonW at h ⊢
    split at h
    · exact ⟨_, _, h, fun _ _ => rfl⟩
    · cases h
  · cases h
def Det (run : ∀ (R : Type), St → (Ex → St → Option R) → Option R) : Prop := ∀ (R : Type) st K r, run R st K = some r → ∃ e st', K e st' = some r ∧ ∀ (R' : Type) K', run R' st K' = K' e st'
theorem outK_det {R : Type} {E : Env} {outs : List (Nat × Live)} {e : Ex} {st : St} {K : Ex → St → Option R} {r : R} (h : outK E outs e st (fun _ _ st => K e st) = some r) : ∃ st', K e st' = some r ∧ ∀ (R' : Type) (K' : Ex → St → Option R'), outK E outs e st (fun _ _ st => K' e st) = K' e st' := by
  unfold outK at h ⊢
  split at h
  · obtain ⟨a, o, h1, h2⟩ := canon_det h
    exact ⟨_, h1, fun R' K' => by rw [h2]⟩
  · cases h
theorem nodeK_det {E : Env} {h : Option Hint} {run : ∀ (R : Type), St → (Ex → St → Option R) → Option R} (H : Det run) : Det (fun R st K => nodeK E h (run R) st K) := by
  intro R st K r hr
  unfold nodeK at hr ⊢
  split at hr
  · exact H R st K r hr
  · obtain ⟨a, o, h1, h2⟩ := canon_det hr
    obtain ⟨e, st', h3, h4⟩ := H R _ _ _ h1
    obtain ⟨st'', h5, h6⟩ := outK_det h3
    exact ⟨e, st'', h5, fun R' K' => (h2 R' _).trans ((h4 R' _).trans (h6 R' K'))⟩
theorem denLoop_det {E : Env} {hint : Option Live} {F : ∀ (R : Type), St → (Ex → St → Option R) → Option R} (H : Det F) : ∀ n, Det (fun R st K => denLoop E hint (F R) n st K)
  | 0, R, st, K, r, h => by cases h
  | n + 1, R, st, K, r, h => by
    simp only [denLoop] at h ⊢
    obtain ⟨e, st', h1, h2⟩ := H R _ _ _ h
    cases e with
    | normal =>
      simp only at h1
      split at h1
      · obtain ⟨a, o, h3, h4⟩ := canon_det h1
        obtain ⟨e, st'', h5, h6⟩ := denLoop_det H n R _ _ _ h3
        exact ⟨e, st'', h5, fun R' K' => (h2 R' _).trans ((h4 R' _).trans (h6 R' K'))⟩
      · obtain ⟨e, st'', h5, h6⟩ := denLoop_det H n R _ _ _ h1
        exact ⟨e, st'', h5, fun R' K' => (h2 R' _).trans (h6 R' K')⟩
    | exit i => exact ⟨.exit i, st', h1, fun R' K' => h2 R' _⟩
    | ret => exact ⟨.ret, st', h1, fun R' K' => h2 R' _⟩
theorem den_det {E : Env} {n : Nat} : ∀ {c : Code} {t : ST}, Det (fun R st K => den (R := R) E n c t st K)
  | .skip, t, R, st, K, r, h => ⟨.normal, st, h, fun _ _ => rfl⟩
  | .region _ ops draw, t, R, st, K, r, h => by
    obtain ⟨st', h1, h2⟩ := denRegion_det h
    exact ⟨.normal, st', h1, fun R' K' => h2 R' _⟩
  | .seq a b, t, R, st, K, r, h => by
    simp only [den] at h ⊢
    refine nodeK_det (E := E) (h := t.h) (run := fun R st K => den E n a t.l st fun e st' => match e with
      | .normal => den E n b t.r st' K
      | .exit i => K (.exit i) st'
      | .ret => K .ret st') (fun R st K r h => ?_) R st K r h
    obtain ⟨e, st', h1, h2⟩ := den_det (c := a) R _ _ _ h
    cases e with
    | normal =>
      obtain ⟨e, st'', h3, h4⟩ := den_det (c := b) R _ _ _ h1
      exact ⟨e, st'', h3, fun R' K' => (h2 R' _).trans (h4 R' K')⟩
    | exit i => exact ⟨.exit i, st', h1, fun R' K' => h2 R' _⟩
    | ret => exact ⟨.ret, st', h1, fun R' K' => h2 R' _⟩
  | .cond c a b, t, R, st, K, r, h => by
    simp only [den] at h ⊢
    refine nodeK_det (E := E) (h := t.h) (run := fun R st K => (opd c >>= getB).run E st (fun x _ => match x with
      | true => den E n a t.l st K
      | false => den E n b t.r st K) []) (fun R st K r h => ?_) R st K r h
    obtain ⟨x, l', h1, h2⟩ := run_det _ h
    cases x with
    | true =>
      obtain ⟨e, st', h3, h4⟩ := den_det (c := a) R _ _ _ h1
      exact ⟨e, st', h3, fun R' K' => (h2 R' _).trans (h4 R' K')⟩
    | false =>
      obtain ⟨e, st', h3, h4⟩ := den_det (c := b) R _ _ _ h1
      exact ⟨e, st', h3, fun R' K' => (h2 R' _).trans (h4 R' K')⟩
  | .block id b, t, R, st, K, r, h => by
    simp only [den] at h ⊢
    refine nodeK_det (E := E) (h := t.h) (run := fun R st K => den E n b t.l st fun e st' => match e with
      | .exit i => match Nat.beq i id with
        | true => K .normal st'
        | false => K (.exit i) st'
      | .normal => K .normal st'
      | .ret => K .ret st') (fun R st K r h => ?_) R st K r h
    obtain ⟨e, st', h1, h2⟩ := den_det (c := b) R _ _ _ h
    cases e with
    | normal => exact ⟨.normal, st', h1, fun R' K' => h2 R' _⟩
    | exit i =>
      simp only at h1
      split at h1
      · rename_i hi
        exact ⟨.normal, st', h1, fun R' K' => (h2 R' _).trans (by simp only [hi])⟩
      · rename_i hi
        exact ⟨.exit i, st', h1, fun R' K' => (h2 R' _).trans (by simp only [hi])⟩
    | ret => exact ⟨.ret, st', h1, fun R' K' => h2 R' _⟩
  | .loop b, t, R, st, K, r, h => by
    simp only [den] at h ⊢
    exact nodeK_det (E := E) (h := t.h) (run := fun R st K => denLoop E (hLive t.h) (den E n b t.l) n st K) (denLoop_det (F := fun R => den E n b t.l) den_det n) R st K r h
  | .exit id, t, R, st, K, r, h => ⟨.exit id, st, h, fun _ _ => rfl⟩
  | .ret, t, R, st, K, r, h => ⟨.ret, st, h, fun _ _ => rfl⟩
  | .rangeFunc .., t, R, st, K, r, h => by simp [den] at h
  | .scope .., t, R, st, K, r, h => by simp [den] at h
  | .label .., t, R, st, K, r, h => by simp [den] at h
  | .goto .., t, R, st, K, r, h => by simp [den] at h
theorem finK_det {R : Type} {E : Env} {fin : Option Live} {e : Ex} {st : St} {K : Ex → St → Option R} {r : R} (h : finK E fin e st K = some r) : ∃ st', K e st' = some r ∧ ∀ (R' : Type) (K' : Ex → St → Option R'), finK E fin e st K' = K' e st' := by
  unfold finK at h ⊢
  split at h
  · exact ⟨st, h, fun _ _ => rfl⟩
  · obtain ⟨a, o, h1, h2⟩ := canon_det h
    exact ⟨_, h1, fun R' K' => h2 R' _⟩
theorem denFS_le {E : Env} {C : Cs2} (hC : CsOK E C) {t : ST} {fin : Option Live} {fn : Func} {n : Nat} (hv : ∀ c, fn.body = some c → Valid E n t c) : LeC (denFS E C t fin fn n) (denF E t fin fn n) := by
  intro args K r h
  unfold denFS at h
  unfold denF
  split at h
  · cases h
  · rename_i hlen
    simp only [hlen]
    split at h
    · cases h
    · rename_i c hc
      simp only [hc]
      split at h
      · cases h
      rename_i hck
      simp only [hck]
      split at h
      · cases h
      · rename_i vs us nx hi
        simp only [hi]
        have h1 := denS_le hC (hv c hc) (K' := fun e st => finK E fin e st (endK E fn args K)) (fun e st r h => h) h
        obtain ⟨e, st', h2, h3⟩ := den_det _ _ _ _ h1
        obtain ⟨st2, h6, h7⟩ := finK_det h2
        obtain ⟨m, d, h4, h5⟩ := endK_eq h6
        refine ⟨m, d, ?_, h5⟩
        exact (h3 FR (fun e st => finK E fin e st (endF E fn args))).trans ((h7 FR _).trans h4)
def Good (P : Program) (f : Nat) (S : SmC) : Prop := ∃ F, Real P f ∧ Sound P f F ∧ LeC S F
def tabC : List (Nat × SmC) → Cs2
  | [], _ => none
  | (g, S) :: r, f => bif Nat.beq f g then some S else tabC r f
inductive Tab (P : Program) : List (Nat × SmC) → Prop
  | nil : Tab P []
  | cons {g : Nat} {S : SmC} {r : List (Nat × SmC)} : Good P g S → Tab P r → Tab P ((g, S) :: r)
theorem Tab.good {P : Program} {l : List (Nat × SmC)} (h : Tab P l) : ∀ g S, tabC l g = some S → Good P g S := by
  induction h with
  | nil => intro g S h; cases h
  | cons h1 h2 ih =>
    intro g S h
    simp only [tabC] at h
    rename_i g' S' r
    cases hb : Nat.beq g g' with
    | true =>
      rw [hb] at h
      cases h
      cases Nat.eq_of_beq_eq_true hb
      exact h1
    | false =>
      rw [hb] at h
      exact ih g S h
open Classical in
noncomputable def realCs (P : Program) (C : Cs2) : Nat → Option Sm := fun g => match C g with
  | some S => if h : Good P g S then some (Classical.choose h) else none
  | none => none
abbrev envP (P : Program) (eqs : Nat → List Nat → Bool) (cs : Nat → Option Sm) : Env := { tt := ttOf P, cs := cs, eqs := eqs }
def bodyOf (fn : Func) : Code := match fn.body with
  | some c => c
  | none => .skip
def cAt : Code → List Nat → Code
  | .seq a b, x :: p => match x with
    | 0 => cAt a p
    | _ => cAt b p
  | .cond _ a b, x :: p => match x with
    | 0 => cAt a p
    | _ => cAt b p
  | .block _ b, _ :: p => cAt b p
  | .loop b, _ :: p => cAt b p
  | c, _ => c
noncomputable def fnAt (P : Program) (f : Nat) : Func := match P.funcs[f]? with
  | some fn => fn
  | none => default
def orC (t : List DV → Bool) (S1 S2 : SmC) : SmC := fun args K => bif t args then S1 args K else S2 args K
theorem Good.or {P : Program} {f : Nat} {t : List DV → Bool} {S1 S2 : SmC} (h1 : Good P f S1) (h2 : Good P f S2) : Good P f (orC t S1 S2) := by
  obtain ⟨F1, r1, s1, l1⟩ := h1
  obtain ⟨F2, r2, s2, l2⟩ := h2
  refine ⟨fun args => bif t args then F1 args else F2 args, r1, fun ds ms r h => ?_, fun args K r h => ?_⟩
  · simp only at h
    cases ht : t ds with
    | true => rw [ht] at h; exact s1 ds ms r h
    | false => rw [ht] at h; exact s2 ds ms r h
  · unfold orC at h
    cases ht : t args with
    | true => rw [ht] at h; simp only [ht]; exact l1 args K r h
    | false => rw [ht] at h; simp only [ht]; exact l2 args K r h
def takes (fn : Func) : Bool := match fn.body with
  | some c => !(fn.name == "runtime.NumGoroutine") && Nat.ble (fn.params.size + fn.nfree) fn.ntmps
  | none => false
theorem good_fn {P : Program} (hmix : P.follows .mixedOrders = true) {eqs : Nat → List Nat → Bool} (heq : ∀ t ks, eqs t ks = true → EqOk P t ks) {tab : List (Nat × SmC)} (htab : Tab P tab) {f : Nat} {fn : Func} (hf : P.funcs[f]? = some fn) (ht : takes fn = true)
    {t : ST} {fin : Option Live} {n : Nat} {S : SmC} (hv : ∀ cs, CsOK (envP P eqs cs) (tabC tab) → Valid (envP P eqs cs) n t (bodyOf fn))
    (hS : ∀ cs args K r, S args K = some r → denFS (envP P eqs cs) (tabC tab) t fin fn n args K = some r) : Good P f S := by
  have hcs : CsOK (envP P eqs (realCs P (tabC tab))) (tabC tab) := by
    intro g S hg
    have hg' := htab.good g S hg
    refine ⟨Classical.choose hg', ?_, (Classical.choose_spec hg').2.2⟩
    show realCs P (tabC tab) g = _
    unfold realCs
    rw [hg]
    simp only [hg', dif_pos]
  have hE : EnvOK P (envP P eqs (realCs P (tabC tab))) := by
    refine ⟨fun _ _ h => h, heq, fun g F hg => ?_⟩
    simp only [realCs] at hg
    split at hg
    · split at hg
      · rename_i h
        cases hg
        exact ⟨(Classical.choose_spec h).1, (Classical.choose_spec h).2.1⟩
      · cases hg
    · cases hg
  unfold takes at ht
  split at ht
  · rename_i c hb
    simp only [Bool.and_eq_true, Bool.not_eq_true'] at ht
    refine ⟨denF (envP P eqs (realCs P (tabC tab))) t fin fn n, ⟨fn, hf, ht.1, by rw [hb]; rfl⟩, denF_ok hE hmix hf (Nat.le_of_ble_eq_true ht.2), ?_⟩
    · intro args K r h
      exact denFS_le hcs (fun c hc => by have := hv _ hcs; unfold bodyOf at this; rw [hc] at this; exact this) args K r (hS _ args K r h)
  · cases ht
end Go.Den
end
section
namespace Go.Den
open Go
set_option linter.unusedVariables false
variable {R α : Type}
def lNil (l : List α) (f : Option R) : Option R := match l with
  | [] => f
  | _ :: _ => none
def lCons (l : List α) (f : α → List α → Option R) : Option R := match l with
  | [] => none
  | x :: r => f x r
theorem lNil_some {l : List α} {f : Option R} {r : R} (h : lNil l f = some r) : l = [] ∧ f = some r := by
  cases l with
  | nil => exact ⟨rfl, h⟩
  | cons => cases h
theorem lCons_some {l : List α} {f : α → List α → Option R} {r : R} (h : lCons l f = some r) : ∃ x t, l = x :: t ∧ f x t = some r := by
  cases l with
  | nil => cases h
  | cons x t => exact ⟨x, t, rfl, h⟩
def iff_ (b : Bool) (f : Option R) : Option R := match b with
  | true => f
  | false => none
theorem iff_some {b : Bool} {f : Option R} {r : R} (h : iff_ b f = some r) : b = true ∧ f = some r := by
  cases b with
  | true => exact ⟨rfl, h⟩
  | false => cases h
def rInt (k : IntKind) (d : RD) (f : Int → Option R) : Option R := match d with
  | .lit (.int k' n) => iff_ (k' == k) (f n)
  | _ => none
def rStr (d : RD) (f : ByteArray → Option R) : Option R := match d with
  | .lit (.string s) => f s
  | _ => none
def rBool (d : RD) (f : Bool → Option R) : Option R := match d with
  | .lit (.bool b) => f b
  | _ => none
def rSl (d : RD) (f : Bool → List (List RD) → Option R) : Option R := match d with
  | .sl t els => f t els
  | _ => none
def rPt (d : RD) (f : List RD → Option R) : Option R := match d with
  | .pt cs => f cs
  | _ => none
def rFn (g : Nat) (d : RD) (f : List RD → Option R) : Option R := match d with
  | .fn g' cs => iff_ (Nat.beq g' g) (f cs)
  | _ => none
theorem rInt_some {k : IntKind} {d : RD} {f : Int → Option R} {r : R} (h : rInt k d f = some r) : ∃ n, d = .lit (.int k n) ∧ f n = some r := by
  unfold rInt at h
  split at h
  · obtain ⟨h1, h2⟩ := iff_some h
    exact ⟨_, by rw [eq_of_beq h1], h2⟩
  · cases h
theorem rStr_some {d : RD} {f : ByteArray → Option R} {r : R} (h : rStr d f = some r) : ∃ s, d = .lit (.string s) ∧ f s = some r := by
  unfold rStr at h
  split at h
  · exact ⟨_, rfl, h⟩
  · cases h
theorem rBool_some {d : RD} {f : Bool → Option R} {r : R} (h : rBool d f = some r) : ∃ s, d = .lit (.bool s) ∧ f s = some r := by
  unfold rBool at h
  split at h
  · exact ⟨_, rfl, h⟩
  · cases h
theorem rSl_some {d : RD} {f : Bool → List (List RD) → Option R} {r : R} (h : rSl d f = some r) : ∃ t els, d = .sl t els ∧ f t els = some r := by
  unfold rSl at h
  split at h
  · exact ⟨_, _, rfl, h⟩
  · cases h
theorem rPt_some {d : RD} {f : List RD → Option R} {r : R} (h : rPt d f = some r) : ∃ cs, d = .pt cs ∧ f cs = some r := by
  unfold rPt at h
  split at h
  · exact ⟨_, rfl, h⟩
  · cases h
theorem rFn_some {g : Nat} {d : RD} {f : List RD → Option R} {r : R} (h : rFn g d f = some r) : ∃ cs, d = .fn g cs ∧ f cs = some r := by
  unfold rFn at h
  split at h
  · obtain ⟨h1, h2⟩ := iff_some h
    exact ⟨_, by rw [Nat.eq_of_beq_eq_true h1], h2⟩
  · cases h
def dRo (d : DV) (f : RD → Option R) : Option R := match d with
  | .ro x => f x
  | _ => none
def dOwn (k : Nat) (d : DV) (f : Bool → List (List RD) → Option R) : Option R := match d with
  | .own k' t els => iff_ (Nat.beq k' k) (f t els)
  | _ => none
def dShal (k : Nat) (d : DV) (f : Bool → List (List RD) → Option R) : Option R := match d with
  | .shal k' t els => iff_ (Nat.beq k' k) (f t els)
  | _ => none
def dMut (d : DV) (f : List DV → Option R) : Option R := match d with
  | .mut xs => f xs
  | _ => none
def dAgg (d : DV) (f : List DV → Option R) : Option R := match d with
  | .agg xs => f xs
  | _ => none
theorem dRo_some {d : DV} {f : RD → Option R} {r : R} (h : dRo d f = some r) : ∃ x, d = .ro x ∧ f x = some r := by
  unfold dRo at h
  split at h
  · exact ⟨_, rfl, h⟩
  · cases h
theorem dOwn_some {k : Nat} {d : DV} {f : Bool → List (List RD) → Option R} {r : R} (h : dOwn k d f = some r) : ∃ t els, d = .own k t els ∧ f t els = some r := by
  unfold dOwn at h
  split at h
  · obtain ⟨h1, h2⟩ := iff_some h
    exact ⟨_, _, by rw [Nat.eq_of_beq_eq_true h1], h2⟩
  · cases h
theorem dShal_some {k : Nat} {d : DV} {f : Bool → List (List RD) → Option R} {r : R} (h : dShal k d f = some r) : ∃ t els, d = .shal k t els ∧ f t els = some r := by
  unfold dShal at h
  split at h
  · obtain ⟨h1, h2⟩ := iff_some h
    exact ⟨_, _, by rw [Nat.eq_of_beq_eq_true h1], h2⟩
  · cases h
theorem dMut_some {d : DV} {f : List DV → Option R} {r : R} (h : dMut d f = some r) : ∃ x, d = .mut x ∧ f x = some r := by
  unfold dMut at h
  split at h
  · exact ⟨_, rfl, h⟩
  · cases h
theorem dAgg_some {d : DV} {f : List DV → Option R} {r : R} (h : dAgg d f = some r) : ∃ x, d = .agg x ∧ f x = some r := by
  unfold dAgg at h
  split at h
  · exact ⟨_, rfl, h⟩
  · cases h
def aRd (v : AV) (f : RD → Option R) : Option R := match v with
  | .rd x => f x
  | _ => none
def aNil (v : AV) (f : Option R) : Option R := match v with
  | .nil => f
  | _ => none
def aBad (v : AV) (f : Option R) : Option R := match v with
  | .bad => f
  | _ => none
def aRef (i : Nat) (v : AV) (f : Bool → Option R) : Option R := match v with
  | .aref j t => iff_ (Nat.beq j i) (f t)
  | _ => none
def aSref (i : Nat) (v : AV) (f : Nat → Nat → Bool → Option R) : Option R := match v with
  | .sref j o n t => iff_ (Nat.beq j i) (f o n t)
  | _ => none
def aBref (i x : Nat) (v : AV) (f : Option R) : Option R := match v with
  | .bref j y => iff_ (Nat.beq j i) (iff_ (Nat.beq y x) f)
  | _ => none
def aEref (i x : Nat) (v : AV) (f : Nat → Option R) : Option R := match v with
  | .eref j n y => iff_ (Nat.beq j i) (iff_ (Nat.beq y x) (f n))
  | _ => none
def aMref (i : Nat) (v : AV) (f : Option R) : Option R := match v with
  | .mref j => iff_ (Nat.beq j i) f
  | _ => none
def aFnv (g : Nat) (v : AV) (f : List AV → Option R) : Option R := match v with
  | .fnv h xs => iff_ (Nat.beq h g) (f xs)
  | _ => none
def aAgg (v : AV) (f : List AV → Option R) : Option R := match v with
  | .agg xs => f xs
  | _ => none
def aTup (v : AV) (f : List AV → Option R) : Option R := match v with
  | .tup xs => f xs
  | _ => none
theorem aRd_some {v : AV} {f : RD → Option R} {r : R} (h : aRd v f = some r) : ∃ x, v = .rd x ∧ f x = some r := by
  unfold aRd at h
  split at h
  · exact ⟨_, rfl, h⟩
  · cases h
theorem aNil_some {v : AV} {f : Option R} {r : R} (h : aNil v f = some r) : v = .nil ∧ f = some r := by
  unfold aNil at h
  split at h
  · exact ⟨rfl, h⟩
  · cases h
theorem aBad_some {v : AV} {f : Option R} {r : R} (h : aBad v f = some r) : v = .bad ∧ f = some r := by
  unfold aBad at h
  split at h
  · exact ⟨rfl, h⟩
  · cases h
theorem aRef_some {i : Nat} {v : AV} {f : Bool → Option R} {r : R} (h : aRef i v f = some r) : ∃ t, v = .aref i t ∧ f t = some r := by
  unfold aRef at h
  split at h
  · obtain ⟨h1, h2⟩ := iff_some h
    exact ⟨_, by rw [Nat.eq_of_beq_eq_true h1], h2⟩
  · cases h
theorem aSref_some {i : Nat} {v : AV} {f : Nat → Nat → Bool → Option R} {r : R} (h : aSref i v f = some r) : ∃ o n t, v = .sref i o n t ∧ f o n t = some r := by
  unfold aSref at h
  split at h
  · obtain ⟨h1, h2⟩ := iff_some h
    exact ⟨_, _, _, by rw [Nat.eq_of_beq_eq_true h1], h2⟩
  · cases h
theorem aBref_some {i x : Nat} {v : AV} {f : Option R} {r : R} (h : aBref i x v f = some r) : v = .bref i x ∧ f = some r := by
  unfold aBref at h
  split at h
  · obtain ⟨h1, h2⟩ := iff_some h
    obtain ⟨h3, h4⟩ := iff_some h2
    exact ⟨by rw [Nat.eq_of_beq_eq_true h1, Nat.eq_of_beq_eq_true h3], h4⟩
  · cases h
theorem aEref_some {i x : Nat} {v : AV} {f : Nat → Option R} {r : R} (h : aEref i x v f = some r) : ∃ n, v = .eref i n x ∧ f n = some r := by
  unfold aEref at h
  split at h
  · obtain ⟨h1, h2⟩ := iff_some h
    obtain ⟨h3, h4⟩ := iff_some h2
    exact ⟨_, by rw [Nat.eq_of_beq_eq_true h1, Nat.eq_of_beq_eq_true h3], h4⟩
  · cases h
theorem aMref_some {i : Nat} {v : AV} {f : Option R} {r : R} (h : aMref i v f = some r) : v = .mref i ∧ f = some r := by
  unfold aMref at h
  split at h
  · obtain ⟨h1, h2⟩ := iff_some h
    exact ⟨by rw [Nat.eq_of_beq_eq_true h1], h2⟩
  · cases h
theorem aFnv_some {g : Nat} {v : AV} {f : List AV → Option R} {r : R} (h : aFnv g v f = some r) : ∃ xs, v = .fnv g xs ∧ f xs = some r := by
  unfold aFnv at h
  split at h
  · obtain ⟨h1, h2⟩ := iff_some h
    exact ⟨_, by rw [Nat.eq_of_beq_eq_true h1], h2⟩
  · cases h
theorem aAgg_some {v : AV} {f : List AV → Option R} {r : R} (h : aAgg v f = some r) : ∃ xs, v = .agg xs ∧ f xs = some r := by
  unfold aAgg at h
  split at h
  · exact ⟨_, rfl, h⟩
  · cases h
theorem aTup_some {v : AV} {f : List AV → Option R} {r : R} (h : aTup v f = some r) : ∃ xs, v = .tup xs ∧ f xs = some r := by
  unfold aTup at h
  split at h
  · exact ⟨_, rfl, h⟩
  · cases h
def oArr (k : Nat) (d p : Bool) (o : OB) (f : List (List RD) → Option R) : Option R := match o.1 with
  | some (.arr k' d' els) => iff_ (Nat.beq k' k) (iff_ (d' == d) (iff_ (o.2 == p) (f els)))
  | _ => none
def oBox (ty : Nat) (p : Bool) (o : OB) (f : List AV → Option R) : Option R := match o.1 with
  | some (.box ty' cs) => iff_ (Nat.beq ty' ty) (iff_ (o.2 == p) (f cs))
  | _ => none
def oMap (p : Bool) (o : OB) (f : List (Int × Value) → Option R) : Option R := match o.1 with
  | some (.map es) => iff_ (o.2 == p) (f es)
  | _ => none
theorem oArr_some {k : Nat} {d p : Bool} {o : OB} {f : List (List RD) → Option R} {r : R} (h : oArr k d p o f = some r) : ∃ els, o = (some (.arr k d els), p) ∧ f els = some r := by
  obtain ⟨o1, o2⟩ := o
  unfold oArr at h
  simp only at h
  split at h
  · obtain ⟨h1, h2⟩ := iff_some h
    obtain ⟨h3, h4⟩ := iff_some h2
    obtain ⟨h5, h6⟩ := iff_some h4
    exact ⟨_, by rw [Nat.eq_of_beq_eq_true h1, eq_of_beq h3, eq_of_beq h5], h6⟩
  · cases h
theorem oBox_some {ty : Nat} {p : Bool} {o : OB} {f : List AV → Option R} {r : R} (h : oBox ty p o f = some r) : ∃ cs, o = (some (.box ty cs), p) ∧ f cs = some r := by
  obtain ⟨o1, o2⟩ := o
  unfold oBox at h
  simp only at h
  split at h
  · obtain ⟨h1, h2⟩ := iff_some h
    obtain ⟨h3, h4⟩ := iff_some h2
    exact ⟨_, by rw [Nat.eq_of_beq_eq_true h1, eq_of_beq h3], h4⟩
  · cases h
theorem oMap_some {p : Bool} {o : OB} {f : List (Int × Value) → Option R} {r : R} (h : oMap p o f = some r) : ∃ es, o = (some (.map es), p) ∧ f es = some r := by
  obtain ⟨o1, o2⟩ := o
  unfold oMap at h
  simp only at h
  split at h
  · obtain ⟨h1, h2⟩ := iff_some h
    exact ⟨_, by rw [eq_of_beq h1], h2⟩
  · cases h
end Go.Den
end
