/- A part of the proof: what a function of plain data and slices does, told without the machine, and that the machine does so. -/
import Derived.Test.YtgpckcnoinifiaaDeb
import Derived.Laws.StructEq
section
namespace Go.Den
open Go
def fieldFits (P : Program) (f : Field) (i k : Nat) : Bool := f.name != "_" && Nat.beq f.offset i && match P.underlying f.type with
  | some (.int .i64) => Nat.beq k 0
  | some .string => Nat.beq k 1
  | some .bool => Nat.beq k 2
  | _ => false
def fieldsFit (P : Program) : Nat → List Field → List Nat → Bool
  | _, [], [] => true
  | i, f :: fs, k :: ks => fieldFits P f i k && fieldsFit P (i + 1) fs ks
  | _, _, _ => false
theorem run_fieldsFit {P : Program} {w : World} {d : Nat} {xs ys : Array Value} : ∀ (fs : List Field) (i : Nat) (zs us : List Value) (e : Bool), xs.toList.drop i = zs → ys.toList.drop i = us → fieldsFit P i fs (zs.map vKind) = true → eqVals zs us = some e → (Op.eqFields (d + 1) xs ys fs).run P w = .ok e w
  | [], i, zs, us, e, hx, hy, hf, he => by
    cases zs with
    | cons z zs => simp [fieldsFit] at hf
    | nil =>
      cases us with
      | cons u us => simp [eqVals] at he
      | nil => simp [eqVals] at he; subst he; rfl
  | f :: fs, i, zs, us, e, hx, hy, hf, he => by
    cases zs with
    | nil => simp [fieldsFit] at hf
    | cons z zs =>
      simp only [List.map_cons, fieldsFit, Bool.and_eq_true] at hf
      obtain ⟨h1, h2⟩ := hf
      unfold fieldFits at h1
      simp only [Bool.and_eq_true, bne_iff_ne] at h1
      obtain ⟨⟨hn, ho⟩, hk⟩ := h1
      have ho := Nat.eq_of_beq_eq_true ho
      have gx : xs[f.offset]? = some z := by
        rw [ho, ← Array.getElem?_toList, ← List.head?_drop, hx]; rfl
      have dx : xs.toList.drop (i + 1) = zs := by rw [← List.tail_drop, hx]; rfl
      have gy : ∀ u us', us = u :: us' → ys[f.offset]? = some u ∧ ys.toList.drop (i + 1) = us' := by
        intro u us' hu
        subst hu
        exact ⟨by rw [ho, ← Array.getElem?_toList, ← List.head?_drop, hy]; rfl, by rw [← List.tail_drop, hy]; rfl⟩
      have go : ∀ (u : Value) (us' : List Value) (b e' : Bool), us = u :: us' → eqVals zs us' = some e' → (b && e') = e → (part f.type xs f.offset).run P w = .ok z w → (part f.type ys f.offset).run P w = .ok u w → (Op.equalIn (d + 1) f.type z u).run P w = .ok b w → (Op.eqFields (d + 1) xs ys (f :: fs)).run P w = .ok e w := by
        intro u us' b e' hu he' hb hp hq hr
        obtain ⟨g1, g2⟩ := gy u us' hu
        simp only [Op.eqFields, if_pos hn, Sem.run_bind, hp, hq, Result.andThen_ok, hr]
        cases b with
        | false => simp at hb; subst hb; rfl
        | true =>
          simp at hb; subst hb
          exact run_fieldsFit fs (i + 1) zs us' e' dx g2 h2 he'
      have pt : ∀ {dd : TypeDesc} {v : Value} {vs : Array Value}, P.underlying f.type = some dd → (match dd with | .struct _ => False | .array _ _ => False | _ => True) → vs[f.offset]? = some v → (part f.type vs f.offset).run P w = .ok v w := by
        intro dd v vs hu hd hv
        cases dd <;> simp at hd <;> simp [part, isAgg, run_underlying hu, hv]
      cases z with
      | int k a =>
        cases us with
        | nil => simp [eqVals] at he
        | cons u us' =>
          cases u <;> simp only [eqVals, reduceCtorEq] at he
          rename_i k' b
          split at he
          · rename_i hkk
            subst hkk
            cases he' : eqVals zs us' with
            | none => rw [he'] at he; cases he
            | some e' =>
              rw [he'] at he
              simp at he
              have hk0 : k = .i64 := by
                cases k <;> simp [vKind] at hk ⊢ <;> (split at hk <;> simp_all)
              subst hk0
              cases hu : P.underlying f.type with
              | none => rw [hu] at hk; cases hk
              | some dd =>
                rw [hu] at hk
                have hd : dd = .int .i64 := by
                  simp [vKind] at hk
                  split at hk <;> simp_all
                subst hd
                exact go _ _ (a == b) e' rfl he' he (pt hu trivial gx) (pt hu trivial (gy _ _ rfl).1) (run_equalIn_int w d _ _ _ a b hu)
          · cases he
      | string a =>
        cases us with
        | nil => simp [eqVals] at he
        | cons u us' =>
          cases u <;> simp only [eqVals, reduceCtorEq] at he
          rename_i b
          cases he' : eqVals zs us' with
          | none => rw [he'] at he; cases he
          | some e' =>
            rw [he'] at he
            simp at he
            cases hu : P.underlying f.type with
            | none => rw [hu] at hk; cases hk
            | some dd =>
              rw [hu] at hk
              have hd : dd = .string := by
                simp [vKind] at hk
                split at hk <;> simp_all
              subst hd
              exact go _ _ (a.toList == b.toList) e' rfl he' (by rw [← beq_toListBytes]; exact he) (pt hu trivial gx) (pt hu trivial (gy _ _ rfl).1) (run_equalIn_string w d _ a b hu)
      | bool a =>
        cases us with
        | nil => simp [eqVals] at he
        | cons u us' =>
          cases u <;> simp only [eqVals, reduceCtorEq] at he
          rename_i b
          cases he' : eqVals zs us' with
          | none => rw [he'] at he; cases he
          | some e' =>
            rw [he'] at he
            simp at he
            cases hu : P.underlying f.type with
            | none => rw [hu] at hk; cases hk
            | some dd =>
              rw [hu] at hk
              have hd : dd = .bool := by
                simp [vKind] at hk
                split at hk <;> simp_all
              subst hd
              exact go _ _ (a == b) e' rfl he' he (pt hu trivial gx) (pt hu trivial (gy _ _ rfl).1) (run_equalIn_bool' w d _ a b hu)
      | _ => simp [eqVals] at he
theorem eqOk_of {P : Program} {t : Nat} {ks : List Nat} (hm : P.eqGuardType P.depth t = false) (hu : P.underlying t = some (.struct (P.fieldsOf t))) (hp : P.stoodInHeld t = false) (hf : fieldsFit P 0 (P.fieldsOf t).toList ks = true) : EqOk P t ks := by
  refine ⟨hm, fun xs ys e w hk he => ?_⟩
  have := run_equalIn_struct (P := P) w 9999 t ⟨xs⟩ ⟨ys⟩ hu hp
  simp only [Op.equal, Op.maxDepth]
  rw [this]
  exact run_fieldsFit (d := 9998) (xs := ⟨xs⟩) (ys := ⟨ys⟩) _ 0 xs ys e rfl rfl (by rw [hk]; exact hf) he
def eqL : List Nat → List Nat → Bool
  | [], [] => true
  | a :: r, b :: s => Nat.beq a b && eqL r s
  | _, _ => false
theorem eqL_eq : ∀ {a b : List Nat}, eqL a b = true → a = b
  | [], [], _ => rfl
  | [], _ :: _, h => by cases h
  | _ :: _, [], h => by cases h
  | a :: r, b :: s, h => by
    simp only [eqL, Bool.and_eq_true] at h
    rw [Nat.eq_of_beq_eq_true h.1, eqL_eq h.2]
def eqIn (l : List (Nat × List Nat)) (t : Nat) (ks : List Nat) : Bool := l.any fun p => Nat.beq t p.1 && eqL ks p.2
theorem eqs_nil {P : Program} : ∀ t ks, eqIn [] t ks = true → EqOk P t ks := fun _ _ h => by cases h
theorem eqs_cons {P : Program} {t0 : Nat} {k0 : List Nat} {l : List (Nat × List Nat)} (h0 : EqOk P t0 k0) (hl : ∀ t ks, eqIn l t ks = true → EqOk P t ks) : ∀ t ks, eqIn ((t0, k0) :: l) t ks = true → EqOk P t ks := by
  intro t ks h
  unfold eqIn at h
  rw [List.any_cons, Bool.or_eq_true, Bool.and_eq_true] at h
  rcases h with h | h
  · rw [Nat.eq_of_beq_eq_true h.1, eqL_eq h.2]; exact h0
  · exact hl t ks h
end Go.Den
end
