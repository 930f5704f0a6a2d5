/- A part of the proof: what they compute answers as the law says. -/
import Derived.Test.YtgpckcnoinifiaaFsa
import Derived.Laws.StructEq
section
namespace Go.Den
open Go
set_option linter.unusedVariables false
set_option linter.unusedSimpArgs false
theorem w64_id {n : Int} (h : -9223372036854775808 ≤ n) (h' : n < 9223372036854775808) : w64 n = n := by
  have e : w64 n = if 9223372036854775808 ≤ n % 18446744073709551616 then n % 18446744073709551616 - 18446744073709551616 else n % 18446744073709551616 := by
    show (if (true && decide ((9223372036854775808 : Int) ≤ n % 18446744073709551616)) = true then n % 18446744073709551616 - 18446744073709551616 else n % 18446744073709551616) = _
    simp only [Bool.true_and, decide_eq_true_eq]
  rw [e]
  split <;> omega
theorem w64_succ {i : Nat} (h : i < 4611686018427387904) : w64 ((i : Int) + 1) = ((i + 1 : Nat) : Int) := by
  rw [w64_id] <;> omega
theorem w64_pred {i : Nat} (h : i < 4611686018427387904) (h0 : 0 < i) : w64 ((i : Int) - 1) = ((i - 1 : Nat) : Int) := by
  rw [w64_id] <;> omega
theorem cond_k {α : Type} (k : α → Option FR) (a : Bool) (x y : α) : (bif a then k x else k y) = k (bif a then x else y) := by cases a <;> rfl
theorem cond_true_false (a : Bool) : (bif a then true else false) = a := by cases a <;> rfl
theorem cond_false_true (a : Bool) : (bif a then false else true) = !a := by cases a <;> rfl
theorem cond_x_false (a x : Bool) : (bif a then x else false) = (a && x) := by cases a <;> rfl
theorem cond_true_x (a x : Bool) : (bif a then true else x) = (a || x) := by cases a <;> rfl
theorem cond_false_x (a x : Bool) : (bif a then false else x) = (!a && x) := by cases a <;> rfl
theorem cond_x_true (a x : Bool) : (bif a then x else true) = (!a || x) := by cases a <;> rfl
structure Val where
  k : Int
  n : Int
  s : ByteArray
def eV (v : Val) : List RD := [iR v.k, iR v.n, .lit (.string v.s)]
def eI (n : Int) : List RD := [iR n]
def eB (n : UInt8) : List RD := [.lit (.int .u8 n.toNat)]
structure Ver where
  key : Int
  born : Int
  died : Int
  t : Bool
  row : List Val
def eVer (v : Ver) : List RD := [iR v.key, iR v.born, iR v.died, .sl v.t (v.row.map eV)]
structure Wr where
  key : Int
  t : Bool
  row : List Val
  gone : Bool
def eWr (v : Wr) : List RD := [iR v.key, .sl v.t (v.row.map eV), .lit (.bool v.gone)]
structure Tx where
  st : Int
  bg : Int
  en : Int
  rt : Bool
  rd : List Int
  wt : Bool
  wr : List Wr
def eTx (v : Tx) : List RD := [iR v.st, iR v.bg, iR v.en, .sl v.rt (v.rd.map eI), .sl v.wt (v.wr.map eWr)]
structure Mv where
  kind : Int
  who : Int
  key : Int
  t : Bool
  row : List Val
def eMv (v : Mv) : List RD := [iR v.kind, iR v.who, iR v.key, .sl v.t (v.row.map eV)]
structure Rw where
  t : Bool
  row : List Val
def eRw (v : Rw) : List RD := [.sl v.t (v.row.map eV)]
theorem at_map {α R : Type} (e : α → List RD) (l : List α) (i : Nat) (zs : List Value) (K : List RD → Option R) : at_ zs (l.map e) (i : Int) K = l[i]?.bind fun v => view zs (e v) K := by
  unfold at_
  simp only [Int.natCast_nonneg, decide_true, Int.toNat_natCast, List.getElem?_map]
  cases l[i]? <;> rfl
theorem at_iis_map (l : List Val) (i : Nat) (k) : at_iis (l.map eV) (i : Int) k = l[i]?.bind fun v => k v.k v.n v.s := by
  unfold at_iis; rw [at_map]; cases l[i]? <;> rfl
theorem at_i_map (l : List Int) (i : Nat) (k) : at_i (l.map eI) (i : Int) k = l[i]?.bind fun v => k v := by
  unfold at_i; rw [at_map]; cases l[i]? <;> rfl
theorem at_iu8_map (l : List UInt8) (i : Nat) (k) : at_iu8 (l.map eB) (i : Int) k = l[i]?.bind fun v => k v.toNat := by
  unfold at_iu8; rw [at_map]; cases l[i]? <;> rfl
theorem at_iiil_map (l : List Ver) (i : Nat) (k) : at_iiil (l.map eVer) (i : Int) k = l[i]?.bind fun v => k v.key v.born v.died v.t (v.row.map eV) := by
  unfold at_iiil; rw [at_map]; cases l[i]? <;> rfl
theorem at_iiil_mapM (l : List Mv) (i : Nat) (k) : at_iiil (l.map eMv) (i : Int) k = l[i]?.bind fun v => k v.kind v.who v.key v.t (v.row.map eV) := by
  unfold at_iiil; rw [at_map]; cases l[i]? <;> rfl
theorem at_ilb_map (l : List Wr) (i : Nat) (k) : at_ilb (l.map eWr) (i : Int) k = l[i]?.bind fun v => k v.key v.t (v.row.map eV) v.gone := by
  unfold at_ilb; rw [at_map]; cases l[i]? <;> rfl
theorem at_iiill_map (l : List Tx) (i : Nat) (k) : at_iiill (l.map eTx) (i : Int) k = l[i]?.bind fun v => k v.st v.bg v.en v.rt (v.rd.map eI) v.wt (v.wr.map eWr) := by
  unfold at_iiill; rw [at_map]; cases l[i]? <;> rfl
theorem at_l_map (l : List Rw) (i : Nat) (k) : at_l (l.map eRw) (i : Int) k = l[i]?.bind fun v => k v.t (v.row.map eV) := by
  unfold at_l; rw [at_map]; cases l[i]? <;> rfl
theorem chr_at {R : Type} (s : ByteArray) (i : Nat) (k : UInt8 → Option R) : chr_ s (i : Int) k = s.data.toList[i]?.bind k := by
  unfold chr_
  simp only [Int.natCast_nonneg, decide_true, Int.toNat_natCast]
  have : s[i]? = s.data.toList[i]? := by
    rw [getElem?_def]
    by_cases h : i < s.size
    · rw [dif_pos h]
      have h' : i < s.data.toList.length := by simpa using h
      rw [List.getElem?_eq_getElem h']
      rfl
    · rw [dif_neg h, List.getElem?_eq_none (by simpa using h)]
  rw [this]
  cases s.data.toList[i]? <;> rfl
def allFrom (f : Nat → Bool) : Nat → Nat → Bool
  | 0, _ => true
  | c + 1, i => f i && allFrom f c (i + 1)
theorem loop_all {L : Nat → Int → Option FR} {len : Nat} {f : Nat → Bool} {kt kf : Option FR}
    (hs : ∀ n i, i < len → L (n + 1) (i : Int) = bif f i then L n ((i + 1 : Nat) : Int) else kf) (he : ∀ n, L (n + 1) (len : Int) = kt) :
    ∀ c i n, i + c = len → c < n → L n (i : Int) = bif allFrom f c i then kt else kf
  | 0, i, n + 1, h, _ => by
    have : i = len := by omega
    subst this
    simpa [allFrom] using he n
  | c + 1, i, n + 1, h, hn => by
    rw [hs n i (by omega), loop_all hs he c (i + 1) n (by omega) (by omega)]
    simp only [allFrom]
    cases f i <;> rfl
  | c, i, 0, h, hn => by omega
theorem allFrom_true {f : Nat → Bool} : ∀ {c i : Nat}, allFrom f c i = true ↔ ∀ j, i ≤ j → j < i + c → f j = true
  | 0, i => by simp [allFrom]; intro j h1 h2; omega
  | c + 1, i => by
    simp only [allFrom, Bool.and_eq_true, allFrom_true (c := c)]
    constructor
    · rintro ⟨h1, h2⟩ j h3 h4
      by_cases h : j = i
      · subst h; exact h1
      · exact h2 j (by omega) (by omega)
    · intro h
      exact ⟨h i (Nat.le_refl i) (by omega), fun j h1 h2 => h j (by omega) (by omega)⟩
theorem allFrom_list {α : Type} (l : List α) (p : α → Bool) : allFrom (fun i => l[i]?.all p) l.length 0 = l.all p := by
  have key : ∀ (suf pre : List α), allFrom (fun i => (pre ++ suf)[i]?.all p) suf.length pre.length = suf.all p := by
    intro suf
    induction suf with
    | nil => intro pre; rfl
    | cons x r ih =>
      intro pre
      simp only [List.length_cons, allFrom, List.all_cons]
      have e : (pre ++ x :: r)[pre.length]? = some x := by simp
      rw [e, Option.all_some]
      have := ih (pre ++ [x])
      simp only [List.append_assoc, List.singleton_append, List.length_append, List.length_singleton] at this
      rw [this]
  exact key l []
def foldFrom {α : Type} (g : Nat → α → α) : Nat → Nat → α → α
  | 0, _, a => a
  | c + 1, i, a => foldFrom g c (i + 1) (g i a)
theorem loop_fold {α : Type} {L : Nat → α → Int → Option FR} {len : Nat} {g : Nat → α → α} {k : α → Option FR} {Inv : Nat → α → Prop}
    (hs : ∀ n i a, i < len → Inv i a → L (n + 1) a (i : Int) = L n (g i a) ((i + 1 : Nat) : Int)) (hi : ∀ i a, i < len → Inv i a → Inv (i + 1) (g i a)) (he : ∀ n a, Inv len a → L (n + 1) a (len : Int) = k a) :
    ∀ c i n a, i + c = len → c < n → Inv i a → L n a (i : Int) = k (foldFrom g c i a)
  | 0, i, n + 1, a, h, _, hI => by
    have : i = len := by omega
    subst this
    simpa [foldFrom] using he n a hI
  | c + 1, i, n + 1, a, h, hn, hI => by
    rw [hs n i a (by omega) hI, loop_fold hs hi he c (i + 1) n (g i a) (by omega) (by omega) (hi i a (by omega) hI)]
    rfl
  | c, i, 0, a, h, hn, _ => by omega
theorem fuel_succ : ∃ m, fuel = m + 1 := ⟨999999999999, fuel_eq⟩
theorem fuel_lt {n : Nat} (h : n ≤ 1073741824) : n < fuel := by rw [fuel_eq]; omega
def inB (n a b : Int) : Bool := decide (n ≥ a) && decide (n ≤ b)
theorem impl_between_eq (a b c : Int) (k) : S_impl_between a b c k = k (inB a b c) := by
  simp only [S_impl_between, F_impl_between, cond_k, cond_true_false, cond_x_false, Bool.and_true, inB]
theorem spec_l1In_eq (a b c : Int) (k) : S_spec_l1In a b c k = k (inB a b c) := by
  simp only [S_spec_l1In, F_spec_l1In, cond_k, cond_true_false, cond_x_false, Bool.and_true, inB]
theorem impl_keyOk_eq (a : Int) (k) : S_impl_keyOk a k = k (inB a 0 4) := by
  simp only [S_impl_keyOk, F_impl_keyOk, impl_between_eq, cond_k, cond_true_false]
def lettersB (s : ByteArray) : Bool := s.data.toList.all fun b => inB (b.toNat : Int) 97 122
theorem bytesR_eq (s : ByteArray) : bytesR s = s.data.toList.map eB := rfl
theorem impl_letters_eq (s : ByteArray) (h : s.size ≤ 1073741824) (k) : S_impl_letters s k = k (lettersB s) := by
  have hl : s.data.toList.length = s.size := Array.length_toList
  simp only [S_impl_letters, F_impl_letters, G_impl_letters_0, bytesR_eq, List.length_map]
  have := loop_all (L := L_impl_letters_0 S_impl_between (fun y => k y) (k true) false (s.data.toList.map eB) (s.data.toList.length : Int)) (len := s.data.toList.length)
    (f := fun i => s.data.toList[i]?.all fun b => inB (b.toNat : Int) 97 122) (kt := k true) (kf := k false)
    (fun n i hi => by
      simp only [L_impl_letters_0, B_impl_letters_0, at_iu8_map, impl_between_eq]
      rw [List.getElem?_eq_getElem hi]
      simp only [Option.bind_some, Option.all_some]
      rw [w64_succ (by omega), w64_id (by omega) (by have := (s.data.toList[i]).toNat_lt; omega), decide_eq_true (by omega), cond_true])
    (fun n => by simp only [L_impl_letters_0, B_impl_letters_0]; rw [decide_eq_false (by omega), cond_false]) s.data.toList.length 0 fuel (by omega) (fuel_lt (by omega))
  simp only [Int.natCast_zero] at this
  rw [this, allFrom_list, cond_k, cond_true_false]
  rfl
end Go.Den
end
section
namespace Go.Den
open Go
set_option linter.unusedVariables false
set_option linter.unusedSimpArgs false
def emptyB (s : ByteArray) : Bool := s.toList == (bs []).toList
def valOk (v : Val) : Bool := bif v.k == 0 then v.n == 0 && emptyB v.s else bif v.k == 1 then emptyB v.s && inB v.n (-9999) 9999 else bif v.k == 2 then v.n == 0 && (decide ((v.s.size : Int) ≤ 6) && lettersB v.s) else v.k == 3 && (emptyB v.s && inB v.n 0 1)
def VB (v : Val) : Prop := v.s.size ≤ 1073741824
theorem impl_Value_ok_eq (v : Val) (h : VB v) (k) : S_impl_Value_ok v.k v.n v.s k = k (valOk v) := by
  simp only [S_impl_Value_ok, F_impl_Value_ok, impl_between_eq, impl_letters_eq v.s h, cond_k, cond_true_false, cond_x_false, Go.beq_toListBytes, Bool.and_true]
  congr 1
  unfold valOk emptyB
  cases v.k == 0 <;> rfl
theorem spec_l1Text_eq (s : ByteArray) (h : s.size ≤ 1073741824) (k) : S_spec_l1Text s k = k (decide ((s.size : Int) ≤ 6) && lettersB s) := by
  have hl : s.data.toList.length = s.size := Array.length_toList
  simp only [S_spec_l1Text, F_spec_l1Text, G_spec_l1Text_0, cond_k, cond_true_false]
  have := loop_all (L := L_spec_l1Text_0 (fun y => k y) (fun y8 => k (decide ((y8.size : Int) ≤ 6))) s) (len := s.data.toList.length)
    (f := fun i => s.data.toList[i]?.all fun b => inB (b.toNat : Int) 97 122) (kt := k (decide ((s.size : Int) ≤ 6))) (kf := k false)
    (fun n i hi => by
      simp only [L_spec_l1Text_0, B_spec_l1Text_0, chr_at]
      rw [List.getElem?_eq_getElem hi]
      simp only [Option.bind_some, Option.all_some]
      rw [w64_succ (by omega), decide_eq_true (by omega), cond_true]
      have e : inB ((s.data.toList[i]).toNat : Int) 97 122 = (!(decide (((s.data.toList[i]).toNat : Int) < 97)) && !(decide (((s.data.toList[i]).toNat : Int) > 122))) := by
        unfold inB
        generalize ((s.data.toList[i]).toNat : Int) = x
        by_cases h1 : x < 97 <;> by_cases h2 : x > 122 <;> simp [h1, h2] <;> omega
      rw [e]
      cases decide (((s.data.toList[i]).toNat : Int) < 97) <;> cases decide (((s.data.toList[i]).toNat : Int) > 122) <;> rfl)
    (fun n => by simp only [L_spec_l1Text_0, B_spec_l1Text_0]; rw [decide_eq_false (by omega), cond_false]) s.data.toList.length 0 fuel (by omega) (fuel_lt (by omega))
  simp only [Int.natCast_zero] at this
  rw [this, allFrom_list, cond_k]
  unfold lettersB
  cases s.data.toList.all _ <;> simp
theorem spec_ValueOk_eq (v : Val) (h : VB v) (k) : S_spec_ValueOk v.k v.n v.s k = k (valOk v) := by
  simp only [S_spec_ValueOk, F_spec_ValueOk, spec_l1In_eq, spec_l1Text_eq v.s h, cond_k, cond_true_false, cond_x_false, Bool.and_true]
  congr 1
  unfold valOk emptyB
  cases v.k == 0 <;> cases v.k == 1 <;> cases v.k == 2 <;> cases v.k == 3 <;> simp only [cond_true, cond_false, Bool.true_and, Bool.false_and] <;> exact Bool.and_comm _ _
def RB (r : List Val) : Prop := r.length ≤ 1073741824 ∧ ∀ v ∈ r, VB v
def rowOk (r : List Val) : Bool := decide ((r.length : Int) ≤ 4) && r.all valOk
theorem get_mem {α : Type} {l : List α} {i : Nat} (h : i < l.length) : l[i] ∈ l := List.getElem_mem h
theorem spec_RowOk_eq (t : Bool) (r : List Val) (h : RB r) (k) : S_spec_RowOk t (r.map eV) k = k (rowOk r) := by
  simp only [S_spec_RowOk, F_spec_RowOk, G_spec_RowOk_0, cond_k, cond_true_false]
  have := loop_all (L := L_spec_RowOk_0 S_spec_ValueOk (fun y => k y) (fun y10t y10 => k (decide ((y10.length : Int) ≤ 4))) t (r.map eV)) (len := r.length)
    (f := fun i => r[i]?.all valOk) (kt := k (decide ((r.length : Int) ≤ 4))) (kf := k false)
    (fun n i hi => by
      simp only [L_spec_RowOk_0, B_spec_RowOk_0, at_iis_map, List.length_map]
      rw [List.getElem?_eq_getElem hi]
      simp only [Option.bind_some, Option.all_some, spec_ValueOk_eq _ (h.2 _ (get_mem hi))]
      rw [w64_succ (by have := h.1; omega), decide_eq_true (by omega), cond_true])
    (fun n => by simp only [L_spec_RowOk_0, B_spec_RowOk_0, List.length_map]; rw [decide_eq_false (by omega), cond_false]) r.length 0 fuel (by omega) (fuel_lt h.1)
  simp only [Int.natCast_zero] at this
  rw [this, allFrom_list, cond_k]
  unfold rowOk
  cases r.all _ <;> simp
theorem loop_find {L : Nat → Int → Option FR} {len : Nat} {f : Nat → Bool} {kt : Option FR} {kf : Nat → Option FR}
    (hs : ∀ n i, i < len → L (n + 1) (i : Int) = bif f i then kf i else L n ((i + 1 : Nat) : Int)) (he : ∀ n, L (n + 1) (len : Int) = kt) :
    ∀ c i n, i + c = len → c < n → ((allFrom (fun i => !f i) c i = true ∧ L n (i : Int) = kt) ∨ (allFrom (fun i => !f i) c i = false ∧ ∃ j, i ≤ j ∧ j < len ∧ f j = true ∧ (∀ m, i ≤ m → m < j → f m = false) ∧ L n (i : Int) = kf j))
  | 0, i, n + 1, h, _ => by
    have : i = len := by omega
    subst this
    exact .inl ⟨rfl, he n⟩
  | c + 1, i, n + 1, h, hn => by
    rw [hs n i (by omega)]
    simp only [allFrom]
    cases hf : f i with
    | true => exact .inr ⟨rfl, i, Nat.le_refl _, by omega, hf, fun m h1 h2 => by omega, rfl⟩
    | false =>
      simp only [cond_false, Bool.not_false, Bool.true_and]
      rcases loop_find hs he c (i + 1) n (by omega) (by omega) with ⟨h1, h2⟩ | ⟨h1, j, h2, h3, h4, h5, h6⟩
      · exact .inl ⟨h1, h2⟩
      · exact .inr ⟨h1, j, by omega, h3, h4, fun m h7 h8 => by by_cases hm : m = i; (· subst hm; exact hf); exact h5 m (by omega) h8, h6⟩
  | c, i, 0, h, hn => by omega
theorem impl_RowOk_1_eq (v : Val) (h : VB v) (k) : S_impl_RowOk_1 v.k v.n v.s k = k (!valOk v) := by
  simp only [S_impl_RowOk_1, F_impl_RowOk_1, impl_Value_ok_eq v h, cond_k, cond_false_true]
theorem impl_RowOk_eq (t : Bool) (r : List Val) (h : RB r) (k) : S_impl_RowOk t (r.map eV) k = k (rowOk r) := by
  simp only [S_impl_RowOk, F_impl_RowOk, S_slices_ContainsFunc_Limpl_Value_impl_Value, F_slices_ContainsFunc_Limpl_Value_impl_Value, S_slices_IndexFunc_Limpl_Value_impl_Value, F_slices_IndexFunc_Limpl_Value_impl_Value, G_slices_IndexFunc_Limpl_Value_impl_Value_0, cond_k, cond_true_false, cond_false_true, List.length_map, Bool.not_true, Bool.not_false]
  have := loop_find (L := L_slices_IndexFunc_Limpl_Value_impl_Value_0 S_impl_RowOk_1 (fun y9 => k (!decide (y9 ≥ 0))) (k (!decide ((-1 : Int) ≥ 0))) t (r.map eV) (r.length : Int)) (len := r.length)
    (f := fun i => !(r[i]?.all valOk)) (kt := k (!decide ((-1 : Int) ≥ 0))) (kf := fun j => k (!decide ((j : Int) ≥ 0)))
    (fun n i hi => by
      simp only [L_slices_IndexFunc_Limpl_Value_impl_Value_0, B_slices_IndexFunc_Limpl_Value_impl_Value_0, at_iis_map]
      rw [List.getElem?_eq_getElem hi]
      simp only [Option.bind_some, Option.all_some, impl_RowOk_1_eq _ (h.2 _ (get_mem hi))]
      rw [w64_succ (by have := h.1; omega), decide_eq_true (by omega), cond_true])
    (fun n => by simp only [L_slices_IndexFunc_Limpl_Value_impl_Value_0, B_slices_IndexFunc_Limpl_Value_impl_Value_0]; rw [decide_eq_false (by omega), cond_false]) r.length 0 fuel (by omega) (fuel_lt h.1)
  simp only [Int.natCast_zero, Bool.not_not] at this
  rw [allFrom_list] at this
  unfold rowOk
  rcases this with ⟨h1, h2⟩ | ⟨h1, j, _, _, _, _, h2⟩
  · rw [h2, h1, cond_k]; simp
  · rw [h2, h1, cond_k]
    have : decide ((j : Int) ≥ 0) = true := by simp
    rw [this]
    simp
end Go.Den
end
section
namespace Go.Den
open Go
set_option linter.unusedVariables false
set_option linter.unusedSimpArgs false
def verOk (v : Ver) : Bool := inB v.key 0 4 && (inB v.born 1 40 && ((v.died == 0 || inB v.died (w64 (v.born + 1)) 40) && rowOk v.row))
def pairI (w v : Ver) : Bool := !(decide (w.key > v.key)) && !((w.key == v.key) && (decide (w.born ≥ v.born) || ((w.died == 0) || decide (w.died > v.born))))
def pairS (w v : Ver) : Bool := !(decide (w.key ≥ v.key) && (decide (w.key > v.key) || ((w.died == 0) || decide (w.died > v.born))))
def stepV (p : Ver → Ver → Bool) (l : List Ver) (i : Nat) : Bool := l[i]?.all fun v => verOk v && (decide (i = 0) || l[i - 1]?.all fun w => p w v)
def versionsOk (l : List Ver) : Bool := allFrom (stepV pairI l) l.length 0 && decide ((l.length : Int) ≤ 60)
def VrB (l : List Ver) : Prop := l.length ≤ 1073741824 ∧ ∀ v ∈ l, RB v.row
theorem prev_get {α : Type} {l : List α} {i : Nat} (h : i < l.length) : l[i - 1]? = some (l[i - 1]'(by omega)) := List.getElem?_eq_getElem (by omega)
theorem impl_VersionsOk_eq (t : Bool) (l : List Ver) (h : VrB l) (k) : S_impl_VersionsOk t (l.map eVer) k = k (versionsOk l) := by
  simp only [S_impl_VersionsOk, F_impl_VersionsOk, G_impl_VersionsOk_0, cond_k, cond_true_false, List.length_map]
  have := loop_all (L := L_impl_VersionsOk_0 S_impl_keyOk S_impl_between S_impl_RowOk (fun y => k y) (fun y25t y25 => k (decide ((y25.length : Int) ≤ 60))) t (l.map eVer) t (l.map eVer) (l.length : Int)) (len := l.length)
    (f := stepV pairI l) (kt := k (decide ((l.length : Int) ≤ 60))) (kf := k false)
    (fun n i hi => by
      have hb := h.1
      simp only [L_impl_VersionsOk_0, B_impl_VersionsOk_0, at_iiil_map, List.length_map, stepV]
      rw [List.getElem?_eq_getElem hi, w64_succ (by omega)]
      simp only [Option.bind_some, Option.all_some, impl_keyOk_eq, impl_between_eq, impl_RowOk_eq _ _ (h.2 _ (get_mem hi))]
      rw [decide_eq_true (by omega), cond_true]
      unfold verOk
      by_cases h0 : i = 0
      · subst h0
        have e0 : (((0 : Nat) : Int) == 0) = true := rfl
        simp only [e0, cond_true, decide_true, Bool.true_or, Bool.and_true]
        generalize inB _ 0 4 = b1; generalize inB _ 1 40 = b2; generalize inB _ _ 40 = b3; generalize rowOk _ = b4
        have e1 : (l[0].died != 0) = !(l[0].died == 0) := rfl
        rw [e1]; generalize (l[0].died == 0) = b5
        cases b1 <;> cases b2 <;> cases b5 <;> cases b3 <;> cases b4 <;> rfl
      · have e0 : ((i : Int) == 0) = false := by simp [h0]
        rw [w64_pred (by omega) (by omega)]
        simp only [e0, cond_false, at_iiil_map, prev_get hi, Option.bind_some, Option.all_some, h0, decide_false, Bool.false_or]
        unfold pairI
        generalize inB _ 0 4 = b1; generalize inB _ 1 40 = b2; generalize inB _ _ 40 = b3; generalize rowOk _ = b4
        have e1 : (l[i].died != 0) = !(l[i].died == 0) := rfl
        rw [e1]; generalize (l[i].died == 0) = b5
        generalize decide ((l[i-1]'(by omega)).key > l[i].key) = c1; generalize ((l[i-1]'(by omega)).key == l[i].key) = c2; generalize decide ((l[i-1]'(by omega)).born ≥ l[i].born) = c3
        generalize ((l[i-1]'(by omega)).died == 0) = c4; generalize decide ((l[i-1]'(by omega)).died > l[i].born) = c5
        cases b1 <;> cases b2 <;> cases b5 <;> cases b3 <;> cases b4 <;> cases c1 <;> cases c2 <;> cases c3 <;> cases c4 <;> cases c5 <;> rfl)
    (fun n => by simp only [L_impl_VersionsOk_0, B_impl_VersionsOk_0, List.length_map]; rw [decide_eq_false (by omega), cond_false]) l.length 0 fuel (by omega) (fuel_lt h.1)
  simp only [Int.natCast_zero] at this
  rw [this, cond_k]
  unfold versionsOk
  cases allFrom _ _ _ <;> simp
theorem spec_l13Version_eq (v : Ver) (h : RB v.row) (k) : S_spec_l13Version v.key v.born v.died v.t (v.row.map eV) k = k (verOk v) := by
  simp only [S_spec_l13Version, F_spec_l13Version, spec_l1In_eq, spec_RowOk_eq _ _ h, cond_k, cond_true_false]
  congr 1
  unfold verOk
  cases inB v.key 0 4 <;> cases inB v.born 1 40 <;> cases v.died == 0 <;> cases inB v.died (w64 (v.born + 1)) 40 <;> cases rowOk v.row <;> rfl
theorem inB_iff {n a b : Int} : inB n a b = true ↔ a ≤ n ∧ n ≤ b := by
  unfold inB; simp only [Bool.and_eq_true, decide_eq_true_eq, ge_iff_le]
theorem pair_eq {w v : Ver} (hw : verOk w = true) : pairS w v = pairI w v := by
  unfold verOk at hw
  simp only [Bool.and_eq_true, Bool.or_eq_true, beq_iff_eq, inB_iff] at hw
  obtain ⟨_, ⟨h1, h2⟩, h3, _⟩ := hw
  rw [w64_id (by omega) (by omega)] at h3
  unfold pairS pairI
  rw [Bool.eq_iff_iff]
  simp only [Bool.not_eq_true', Bool.and_eq_true, Bool.or_eq_true, Bool.and_eq_false_iff, Bool.or_eq_false_iff, decide_eq_false_iff_not, beq_eq_false_iff_ne, ne_eq, decide_eq_true_eq, beq_iff_eq]
  omega
theorem stepV_verOk {p : Ver → Ver → Bool} {l : List Ver} {i : Nat} {v : Ver} (h : stepV p l i = true) (hv : l[i]? = some v) : verOk v = true := by
  unfold stepV at h
  rw [hv, Option.all_some, Bool.and_eq_true] at h
  exact h.1
theorem all_stepV (l : List Ver) : allFrom (stepV pairS l) l.length 0 = allFrom (stepV pairI l) l.length 0 := by
  rw [Bool.eq_iff_iff, allFrom_true, allFrom_true]
  have key : ∀ {p q : Ver → Ver → Bool}, (∀ w v, verOk w = true → p w v = q w v) → (∀ j, 0 ≤ j → j < 0 + l.length → stepV p l j = true) → ∀ j, 0 ≤ j → j < 0 + l.length → stepV q l j = true := by
    intro p q hpq h j h0 hj
    have h1 := h j h0 hj
    unfold stepV at h1 ⊢
    have hlt : j < l.length := by omega
    rw [List.getElem?_eq_getElem hlt, Option.all_some] at h1 ⊢
    by_cases hz : j = 0
    · simp only [hz, decide_true, Bool.true_or, Bool.and_true] at h1 ⊢; exact h1
    · simp only [hz, decide_false, Bool.false_or, prev_get hlt, Option.all_some] at h1 ⊢
      have h2 := stepV_verOk (h (j - 1) (by omega) (by omega)) (prev_get hlt)
      rw [← hpq _ _ h2]; exact h1
  exact ⟨key (fun w v hw => pair_eq hw), key (fun w v hw => (pair_eq hw).symm)⟩
theorem spec_VersionsOk_eq (t : Bool) (l : List Ver) (h : VrB l) (k) : S_spec_VersionsOk t (l.map eVer) k = k (versionsOk l) := by
  simp only [S_spec_VersionsOk, F_spec_VersionsOk, G_spec_VersionsOk_0, cond_k, cond_true_false]
  have := loop_all (L := L_spec_VersionsOk_0 S_spec_l13Version (fun y => k y) (fun y25t y25 => k (decide ((y25.length : Int) ≤ 60))) t (l.map eVer)) (len := l.length)
    (f := stepV pairS l) (kt := k (decide ((l.length : Int) ≤ 60))) (kf := k false)
    (fun n i hi => by
      have hb := h.1
      simp only [L_spec_VersionsOk_0, B_spec_VersionsOk_0, at_iiil_map, List.length_map, stepV]
      rw [List.getElem?_eq_getElem hi, w64_succ (by omega)]
      simp only [Option.bind_some, Option.all_some, spec_l13Version_eq _ (h.2 _ (get_mem hi))]
      rw [decide_eq_true (by omega), cond_true]
      by_cases h0 : i = 0
      · subst h0
        have e0 : decide (((0 : Nat) : Int) > 0) = false := rfl
        simp only [e0, cond_false, decide_true, Bool.true_or, Bool.and_true]
      · have e0 : decide ((i : Int) > 0) = true := by simp; omega
        rw [w64_pred (by omega) (by omega)]
        simp only [e0, cond_true, at_iiil_map, prev_get hi, Option.bind_some, Option.all_some, h0, decide_false, Bool.false_or]
        unfold pairS
        generalize verOk _ = b1; generalize decide ((l[i-1]'(by omega)).key > l[i].key) = c1; generalize decide ((l[i-1]'(by omega)).key ≥ l[i].key) = c2
        generalize ((l[i-1]'(by omega)).died == 0) = c4; generalize decide ((l[i-1]'(by omega)).died > l[i].born) = c5
        cases b1 <;> cases c1 <;> cases c2 <;> cases c4 <;> cases c5 <;> rfl)
    (fun n => by simp only [L_spec_VersionsOk_0, B_spec_VersionsOk_0, List.length_map]; rw [decide_eq_false (by omega), cond_false]) l.length 0 fuel (by omega) (fuel_lt h.1)
  simp only [Int.natCast_zero, List.length_map] at this
  rw [this, all_stepV, cond_k]
  unfold versionsOk
  cases allFrom _ _ _ <;> simp
end Go.Den
end
section
namespace Go.Den
open Go
set_option linter.unusedVariables false
set_option linter.unusedSimpArgs false
theorem lenOk_of {n eb : Nat} (h : n ≤ 1073741824) (he : eb ≤ 10000) : lenOk n eb = true := by
  unfold lenOk
  have : 2 * n * eb ≤ 2 * 1073741824 * 10000 := Nat.mul_le_mul (Nat.mul_le_mul_left 2 h) he
  simp only [decide_eq_true_eq]
  omega
theorem req_true {R : Type} {b : Bool} {k : Option R} (h : b = true) : req b k = k := by subst h; rfl
theorem widthOk_map {α : Type} (e : α → List RD) (k : Nat) (l : List α) (h : ∀ v, (e v).length = k) : widthOk k (l.map e) = true := by
  unfold widthOk
  rw [List.all_map, List.all_eq_true]
  intro v _
  simp [h]
theorem allLit_map {α : Type} (e : α → List RD) (l : List α) (h : ∀ v, (e v).all isLit = true) : allLit (l.map e) = true := by
  unfold allLit
  rw [List.all_map, List.all_eq_true]
  intro v _
  exact h v
theorem eV_width (v : Val) : (eV v).length = 3 := rfl
theorem eV_lit (v : Val) : (eV v).all isLit = true := rfl
theorem loop_findL {α : Type} {l : List α} {p : α → Bool} {L : Nat → Int → Option FR} {kt : Option FR} {kf : α → Option FR}
    (hs : ∀ n i (h : i < l.length), L (n + 1) (i : Int) = bif p l[i] then kf l[i] else L n ((i + 1 : Nat) : Int)) (he : ∀ n, L (n + 1) (l.length : Int) = kt) :
    ∀ c i n, i + c = l.length → c < n → L n (i : Int) = ((l.drop i).find? p).elim kt kf
  | 0, i, n + 1, h, _ => by
    have : i = l.length := by omega
    subst this
    simpa using he n
  | c + 1, i, n + 1, h, hn => by
    have hi : i < l.length := by omega
    rw [hs n i hi, loop_findL hs he c (i + 1) n (by omega) (by omega), List.drop_eq_getElem_cons hi, List.find?_cons]
    cases p l[i] <;> rfl
  | c, i, 0, h, hn => by omega
def seenP (key time : Int) (v : Ver) : Bool := v.key == key && (decide (v.born ≤ time) && ((v.died == 0) || decide (v.died > time)))
def seenAt (l : List Ver) (key time : Int) : Option Ver := l.find? (seenP key time)
theorem impl_seen_eq (t : Bool) (l : List Ver) (hl : l.length ≤ 1073741824) (key time : Int) (k) :
    S_impl_seen t (l.map eVer) key time k = (seenAt l key time).elim (k 0 0 0 true [] false) (fun v => k v.key v.born v.died v.t (v.row.map eV) true) := by
  simp only [S_impl_seen, F_impl_seen, G_impl_seen_0, List.length_map]
  have := loop_findL (l := l) (p := seenP key time) (L := L_impl_seen_0 (fun y25 y26 y27 y28 y29t y29 => k y26 y27 y28 y29t y29 y25) (fun y30 y31 y32 y33t y34 => k 0 0 0 true ([]) false) key time t (l.map eVer) (l.length : Int) 0 0 0 true [])
    (kt := k 0 0 0 true [] false) (kf := fun v => k v.key v.born v.died v.t (v.row.map eV) true)
    (fun n i hi => by
      simp only [L_impl_seen_0, B_impl_seen_0, at_iiil_map]
      rw [List.getElem?_eq_getElem hi, w64_succ (by omega), decide_eq_true (by omega), cond_true]
      simp only [Option.bind_some]
      unfold seenP
      generalize (l[i].key == key) = b1; generalize decide (l[i].born ≤ time) = b2; generalize (l[i].died == 0) = b3; generalize decide (l[i].died > time) = b4
      cases b1 <;> cases b2 <;> cases b3 <;> cases b4 <;> rfl)
    (fun n => by simp only [L_impl_seen_0, B_impl_seen_0]; rw [decide_eq_false (by omega), cond_false]) l.length 0 fuel (by omega) (fuel_lt hl)
  simp only [Int.natCast_zero, List.drop_zero] at this
  exact this
theorem clip_eq {α : Type} (p1t : Bool) (p1 : List (List RD)) (k : Bool → List (List RD) → Option FR) : S_slices_Clip_Limpl_Value_impl_Value p1t p1 k = k true p1 := by
  simp only [S_slices_Clip_Limpl_Value_impl_Value, F_slices_Clip_Limpl_Value_impl_Value]
  rw [req_true (by unfold slcOk; simp)]
  have : eqN (p1.length : Int) p1.length = true := by unfold eqN; simp
  rw [this, cond_true, Bool.or_true]
theorem clip2_eq (p1t : Bool) (p1 : List (List RD)) (k : Bool → List (List RD) → Option FR) : S_slices_Clip_LLimpl_Value_Limpl_Value p1t p1 k = k true p1 := by
  simp only [S_slices_Clip_LLimpl_Value_Limpl_Value, F_slices_Clip_LLimpl_Value_Limpl_Value]
  rw [req_true (by unfold slcOk; simp)]
  have : eqN (p1.length : Int) p1.length = true := by unfold eqN; simp
  rw [this, cond_true, Bool.or_true]
theorem impl_clone_eq (t : Bool) (r : List Val) (h : r.length ≤ 1073741824) (k) : S_impl_clone_impl_Value t (r.map eV) k = k true (r.map eV) := by
  simp only [S_impl_clone_impl_Value, F_impl_clone_impl_Value, clip_eq (α := Val)]
  rw [req_true (widthOk_map eV 3 r eV_width), req_true (allLit_map eV r eV_lit), req_true (lenOk_of (by simpa using h) (by decide))]
  cases r with
  | nil => rfl
  | cons x r =>
    rw [show ((((x :: r).map eV).length : Int) == 0) = false from by simp; omega]
    rfl
def clr (v : Rw) : Rw := ⟨true, v.row⟩
theorem impl_rowsCopy_eq (t : Bool) (l : List Rw) (hl : l.length ≤ 1000) (hr : ∀ v ∈ l, v.row.length ≤ 1073741824) (k) : S_impl_rowsCopy t (l.map eRw) k = k true ((l.map clr).map eRw) := by
  simp only [S_impl_rowsCopy, F_impl_rowsCopy, G_impl_rowsCopy_0, clip2_eq, List.length_map]
  have := loop_fold (α := Bool × List (List RD)) (L := fun n a i => L_impl_rowsCopy_0 S_impl_clone_impl_Value (fun y10t y11 => k true y11) t (l.map eRw) (l.length : Int) n a.1 i a.2) (len := l.length)
    (g := fun i a => (false, a.2 ++ [(l[i]?.map fun v => eRw (clr v)).getD []])) (k := fun a => k true a.2) (Inv := fun i a => a.2.length = i)
    (fun n i a hi hI => by
      simp only [L_impl_rowsCopy_0, B_impl_rowsCopy_0, at_l_map]
      rw [List.getElem?_eq_getElem hi, w64_succ (by omega), decide_eq_true (by omega), cond_true]
      simp only [Option.bind_some, Option.map_some, Option.getD_some, impl_clone_eq _ _ (hr _ (get_mem hi))]
      rw [req_true (lenOk_of (by omega) (by decide))]
      rfl)
    (fun i a hi hI => by simp [hI])
    (fun n a hI => by simp only [L_impl_rowsCopy_0, B_impl_rowsCopy_0]; rw [decide_eq_false (by omega), cond_false]) l.length 0 fuel (true, []) (by omega) (fuel_lt (by omega)) rfl
  simp only [Int.natCast_zero] at this
  rw [this]
  have key : ∀ c i (a : Bool × List (List RD)), i + c = l.length → (foldFrom (fun i a => (false, a.2 ++ [(l[i]?.map fun v => eRw (clr v)).getD []])) c i a).2 = a.2 ++ ((l.drop i).map clr).map eRw := by
    intro c
    induction c with
    | zero => intro i a h; simp [foldFrom, List.drop_eq_nil_of_le (show l.length ≤ i by omega)]
    | succ c ih =>
      intro i a h
      have hi : i < l.length := by omega
      simp only [foldFrom]
      rw [ih (i + 1) _ (by omega), List.drop_eq_getElem_cons hi]
      simp only [List.map_cons, List.getElem?_eq_getElem hi, Option.map_some, Option.getD_some, List.append_assoc, List.singleton_append]
  rw [key _ _ _ (by omega)]
  simp
def rowsFrom (l : List Ver) (time : Int) : Nat → Nat → List Rw
  | 0, _ => []
  | c + 1, i => ((seenAt l (i : Int) time).elim [] fun v => [⟨v.t, v.row⟩]) ++ rowsFrom l time c (i + 1)
def rowsAt (l : List Ver) (time : Int) : List Rw := rowsFrom l time 5 0
theorem rowsFrom_length (l : List Ver) (time : Int) : ∀ c i, (rowsFrom l time c i).length ≤ c
  | 0, _ => Nat.le_refl _
  | c + 1, i => by
    have := rowsFrom_length l time c (i + 1)
    simp only [rowsFrom, List.length_append]
    cases seenAt l (i : Int) time <;> simp <;> omega
theorem rowsFrom_mem {l : List Ver} {time : Int} : ∀ {c i} {r : Rw}, r ∈ rowsFrom l time c i → ∃ v ∈ l, r.row = v.row
  | 0, _, r, h => by cases h
  | c + 1, i, r, h => by
    simp only [rowsFrom, List.mem_append] at h
    rcases h with h | h
    · cases hs : seenAt l (i : Int) time with
      | none => rw [hs] at h; cases h
      | some v =>
        rw [hs] at h
        simp at h
        subst h
        exact ⟨v, List.mem_of_find?_eq_some hs, rfl⟩
    · exact rowsFrom_mem h
theorem impl_RowsAt_eq (t : Bool) (l : List Ver) (h : VrB l) (time : Int) (k) :
    S_impl_RowsAt t (l.map eVer) time k = bif versionsOk l then k true (((rowsAt l time).map clr).map eRw) else k true [] := by
  simp only [S_impl_RowsAt, F_impl_RowsAt, G_impl_RowsAt_0, impl_VersionsOk_eq _ _ h]
  have := loop_fold (α := Bool × List (List RD)) (L := fun n a i => L_impl_RowsAt_0 S_impl_seen (fun y14t y15 => S_impl_rowsCopy y14t y15 (fun r16t r16 => k r16t r16)) t (l.map eVer) time n a.1 i a.2) (len := 5)
    (g := fun i a => (seenAt l (i : Int) time).elim a fun v => (false, a.2 ++ [eRw ⟨v.t, v.row⟩])) (k := fun a => S_impl_rowsCopy a.1 a.2 k) (Inv := fun i a => a.2.length ≤ i)
    (fun n i a hi hI => by
      simp only [L_impl_RowsAt_0, B_impl_RowsAt_0, impl_seen_eq _ _ h.1]
      rw [w64_succ (by omega), decide_eq_true (by omega), cond_true]
      cases seenAt l (i : Int) time with
      | none => rfl
      | some v =>
        simp only [Option.elim_some, cond_true]
        rw [req_true (lenOk_of (by omega) (by decide))]
        rfl)
    (fun i a hi hI => by cases seenAt l (i : Int) time <;> simp <;> omega)
    (fun n a hI => by simp only [L_impl_RowsAt_0, B_impl_RowsAt_0]; rw [decide_eq_false (by omega), cond_false]) 5 0 fuel (true, []) (by omega) (fuel_lt (by omega)) (Nat.le_refl _)
  simp only [Int.natCast_zero] at this
  rw [this]
  have key : ∀ c i (a : Bool × List (List RD)), (foldFrom (fun i (a : Bool × List (List RD)) => (seenAt l (i : Int) time).elim a fun v => (false, a.2 ++ [eRw ⟨v.t, v.row⟩])) c i a).2 = a.2 ++ (rowsFrom l time c i).map eRw := by
    intro c
    induction c with
    | zero => intro i a; simp [foldFrom, rowsFrom]
    | succ c ih =>
      intro i a
      simp only [foldFrom, rowsFrom]
      rw [ih]
      cases seenAt l (i : Int) time <;> simp
  have e := key 5 0 (true, [])
  rw [List.nil_append] at e
  rw [e]
  have fin := impl_rowsCopy_eq (foldFrom (fun i (a : Bool × List (List RD)) => (seenAt l (i : Int) time).elim a fun v => (false, a.2 ++ [eRw ⟨v.t, v.row⟩])) 5 0 (true, [])).1 (rowsAt l time) (by have := rowsFrom_length l time 5 0; unfold rowsAt; omega) (fun v hv => by obtain ⟨u, hu, e⟩ := rowsFrom_mem hv; rw [e]; exact (h.2 u hu).1) k
  unfold rowsAt at fin ⊢
  rw [fin]
end Go.Den
end
section
namespace Go.Den
open Go
set_option linter.unusedVariables false
set_option linter.unusedSimpArgs false
theorem spec_l3Own_eq (t : Bool) (r : List Val) (h : r.length ≤ 1073741824) (k) : S_spec_l3Own t (r.map eV) k = k false (r.map eV) := by
  simp only [S_spec_l3Own, F_spec_l3Own]
  rw [req_true (widthOk_map eV 3 r eV_width), req_true (allLit_map eV r eV_lit), req_true (lenOk_of (by simpa using h) (by decide)), List.nil_append]
theorem spec_l13Seen_eq (v : Ver) (time : Int) (k) : S_spec_l13Seen v.key v.born v.died v.t (v.row.map eV) time k = k (decide (v.born ≤ time) && ((v.died == 0) || decide (time < v.died))) := by
  simp only [S_spec_l13Seen, F_spec_l13Seen, cond_k, cond_true_false, cond_true_x, cond_x_false, Bool.and_true]
theorem spec_SeenAt_eq (t : Bool) (l : List Ver) (h : VrB l) (key time : Int) (k) :
    S_spec_SeenAt t (l.map eVer) key time k = bif versionsOk l then (seenAt l key time).elim (k true [] false) (fun v => k false (v.row.map eV) true) else k true [] false := by
  simp only [S_spec_SeenAt, F_spec_SeenAt, G_spec_SeenAt_0]
  cases hv : versionsOk l with
  | false =>
    obtain ⟨m, hf⟩ := fuel_succ
    rw [hf]
    simp only [L_spec_SeenAt_0, B_spec_SeenAt_0, spec_VersionsOk_eq _ _ h, hv, cond_false]
    cases decide ((0 : Int) < ((l.map eVer).length : Int)) <;> rfl
  | true =>
    have := loop_findL (l := l) (p := seenP key time) (L := L_spec_SeenAt_0 S_spec_VersionsOk S_spec_l13Seen S_spec_l3Own (fun y23t y24 y25 => k y23t y25 y24) (k true ([]) false) t (l.map eVer) key time)
      (kt := k true [] false) (kf := fun v => k false (v.row.map eV) true)
      (fun n i hi => by
        have hb := h.1
        simp only [L_spec_SeenAt_0, B_spec_SeenAt_0, at_iiil_map, spec_VersionsOk_eq _ _ h, hv, cond_true, List.length_map]
        rw [List.getElem?_eq_getElem hi, w64_succ (by omega), decide_eq_true (by omega), cond_true]
        simp only [Option.bind_some, spec_l13Seen_eq, spec_l3Own_eq _ _ (h.2 _ (get_mem hi)).1]
        unfold seenP
        rw [show decide (l[i].died > time) = decide (time < l[i].died) from rfl]
        generalize (l[i].key == key) = b1; generalize decide (l[i].born ≤ time) = b2; generalize (l[i].died == 0) = b3; generalize decide (time < l[i].died) = b4
        cases b1 <;> cases b2 <;> cases b3 <;> cases b4 <;> rfl)
      (fun n => by simp only [L_spec_SeenAt_0, B_spec_SeenAt_0, List.length_map]; rw [decide_eq_false (by omega), cond_false]) l.length 0 fuel (by omega) (fuel_lt h.1)
    simp only [Int.natCast_zero, List.drop_zero] at this
    rw [this, cond_true]
    rfl
def clrF (v : Rw) : Rw := ⟨false, v.row⟩
theorem spec_RowsAt_eq (t : Bool) (l : List Ver) (h : VrB l) (time : Int) :
    ∃ t', ∀ k, S_spec_RowsAt t (l.map eVer) time k = bif versionsOk l then k t' (((rowsAt l time).map clrF).map eRw) else k true [] := by
  let g : Nat → Bool × List (List RD) → Bool × List (List RD) := fun i a => bif versionsOk l then (seenAt l (i : Int) time).elim a fun v => (false, a.2 ++ [eRw ⟨false, v.row⟩]) else a
  refine ⟨(foldFrom g 5 0 (true, [])).1, fun k => ?_⟩
  simp only [S_spec_RowsAt, F_spec_RowsAt, G_spec_RowsAt_0]
  have := loop_fold (α := Bool × List (List RD)) (L := fun n a i => L_spec_RowsAt_0 S_spec_SeenAt (fun y10t y11 => k y10t y11) t (l.map eVer) time n a.1 i a.2) (len := 5)
    (g := g) (k := fun a => k a.1 a.2) (Inv := fun i a => a.2.length ≤ i)
    (fun n i a hi hI => by
      simp only [L_spec_RowsAt_0, B_spec_RowsAt_0, spec_SeenAt_eq _ _ h, g]
      rw [w64_succ (by omega), decide_eq_true (by omega), cond_true]
      cases versionsOk l with
      | false => rfl
      | true =>
        cases seenAt l (i : Int) time with
        | none => rfl
        | some v =>
          simp only [Option.elim_some, cond_true]
          rw [req_true (lenOk_of (by omega) (by decide))]
          rfl)
    (fun i a hi hI => by simp only [g]; cases versionsOk l <;> cases seenAt l (i : Int) time <;> simp <;> omega)
    (fun n a hI => by simp only [L_spec_RowsAt_0, B_spec_RowsAt_0]; rw [decide_eq_false (by omega), cond_false]) 5 0 fuel (true, []) (by omega) (fuel_lt (by omega)) (Nat.le_refl _)
  simp only [Int.natCast_zero] at this
  rw [this]
  cases hv : versionsOk l with
  | false =>
    have : foldFrom g 5 0 (true, []) = (true, []) := by simp only [foldFrom, g, hv, cond_false]
    rw [this]; rfl
  | true =>
    have key : ∀ c i (a : Bool × List (List RD)), (foldFrom g c i a).2 = a.2 ++ ((rowsFrom l time c i).map clrF).map eRw := by
      intro c
      induction c with
      | zero => intro i a; simp [foldFrom, rowsFrom]
      | succ c ih =>
        intro i a
        simp only [foldFrom, rowsFrom]
        rw [ih]
        simp only [g, hv, cond_true]
        cases seenAt l (i : Int) time <;> simp [clrF]
    have e := key 5 0 (true, [])
    rw [List.nil_append] at e
    rw [e, cond_true]
    rfl
theorem bytes_beq (a : ByteArray) : (a == a) = true := by rw [Go.beq_toListBytes]; simp
theorem laws_sameRow_refl (t t' : Bool) (r : List Val) (h : r.length ≤ 1073741824) (k) : S_laws_sameRow t (r.map eV) t' (r.map eV) k = k true := by
  simp only [S_laws_sameRow, F_laws_sameRow, G_laws_sameRow_0, List.length_map, bne_self_eq_false, cond_false]
  have := loop_all (L := L_laws_sameRow_0 (fun y => k y) (k true) t (r.map eV) t' (r.map eV)) (len := r.length)
    (f := fun _ => true) (kt := k true) (kf := k false)
    (fun n i hi => by
      simp only [L_laws_sameRow_0, B_laws_sameRow_0, at_iis_map, List.length_map]
      rw [List.getElem?_eq_getElem hi, w64_succ (by omega), decide_eq_true (by omega), cond_true]
      simp only [Option.bind_some, beq_self_eq_true, bytes_beq, Bool.and_true, Bool.not_true, cond_false, cond_true])
    (fun n => by simp only [L_laws_sameRow_0, B_laws_sameRow_0, List.length_map]; rw [decide_eq_false (by omega), cond_false]) r.length 0 fuel (by omega) (fuel_lt h)
  simp only [Int.natCast_zero] at this
  rw [this, allFrom_true.2 (fun _ _ _ => rfl), cond_true]
theorem laws_sameRows_same (t t' : Bool) (a b : List Rw) (h : a.map (·.row) = b.map (·.row)) (hl : a.length ≤ 1000) (hr : ∀ v ∈ a, v.row.length ≤ 1073741824) (k) : S_laws_sameRows t (a.map eRw) t' (b.map eRw) k = k true := by
  have hlen : a.length = b.length := by have := congrArg List.length h; simpa using this
  simp only [S_laws_sameRows, F_laws_sameRows, G_laws_sameRows_0, List.length_map, hlen, bne_self_eq_false, cond_false]
  have := loop_all (L := L_laws_sameRows_0 S_laws_sameRow (fun y => k y) (k true) t (a.map eRw) t' (b.map eRw)) (len := a.length)
    (f := fun _ => true) (kt := k true) (kf := k false)
    (fun n i hi => by
      have hi' : i < b.length := by omega
      simp only [L_laws_sameRows_0, B_laws_sameRows_0, at_l_map, List.length_map]
      rw [List.getElem?_eq_getElem hi, List.getElem?_eq_getElem hi', w64_succ (by omega), decide_eq_true (by omega), cond_true]
      have e : a[i].row = b[i].row := by
        have h1 : (a.map (·.row))[i]? = (b.map (·.row))[i]? := by rw [h]
        simpa [List.getElem?_eq_getElem hi, List.getElem?_eq_getElem hi'] using h1
      simp only [Option.bind_some]
      rw [← e, laws_sameRow_refl _ _ _ (hr _ (get_mem hi)), cond_true])
    (fun n => by simp only [L_laws_sameRows_0, B_laws_sameRows_0, List.length_map]; rw [decide_eq_false (by omega), cond_false]) a.length 0 fuel (by omega) (fuel_lt (by omega))
  simp only [Int.natCast_zero] at this
  rw [this, allFrom_true.2 (fun _ _ _ => rfl), cond_true]
end Go.Den
end
section
namespace Go.Den
open Go
set_option linter.unusedVariables false
set_option linter.unusedSimpArgs false
def stepR (l : List Int) (i : Nat) : Bool := l[i]?.all fun n => inB n 0 4 && (decide (i = 0) || l[i - 1]?.all fun m => !decide (m ≥ n))
def readsOk (l : List Int) : Bool := allFrom (stepR l) l.length 0
def stepW (l : List Wr) (i : Nat) : Bool := l[i]?.all fun w => inB w.key 0 4 && (rowOk w.row && (!(w.gone && decide ((w.row.length : Int) > 0)) && (decide (i = 0) || l[i - 1]?.all fun u => !decide (u.key ≥ w.key))))
def writesOk (l : List Wr) : Bool := allFrom (stepW l) l.length 0
def WB (l : List Wr) : Prop := l.length ≤ 1073741824 ∧ ∀ v ∈ l, RB v.row
theorem spec_l14Reads_eq (t : Bool) (l : List Int) (h : l.length ≤ 1073741824) (k) : S_spec_l14Reads t (l.map eI) k = k (readsOk l) := by
  simp only [S_spec_l14Reads, F_spec_l14Reads, G_spec_l14Reads_0]
  have := loop_all (L := L_spec_l14Reads_0 S_spec_l1In (fun y => k y) (k true) t (l.map eI)) (len := l.length) (f := stepR l) (kt := k true) (kf := k false)
    (fun n i hi => by
      simp only [L_spec_l14Reads_0, B_spec_l14Reads_0, at_i_map, List.length_map, stepR, spec_l1In_eq]
      rw [List.getElem?_eq_getElem hi, w64_succ (by omega), decide_eq_true (by omega), cond_true]
      simp only [Option.bind_some, Option.all_some]
      by_cases h0 : i = 0
      · subst h0
        have e0 : decide (((0 : Nat) : Int) > 0) = false := rfl
        simp only [e0, cond_false, decide_true, Bool.true_or, Bool.and_true]
      · have e0 : decide ((i : Int) > 0) = true := by simp; omega
        rw [w64_pred (by omega) (by omega)]
        simp only [e0, cond_true, at_i_map, prev_get hi, Option.bind_some, Option.all_some, h0, decide_false, Bool.false_or]
        generalize inB _ 0 4 = b1; generalize decide ((l[i-1]'(by omega)) ≥ l[i]) = b2
        cases b1 <;> cases b2 <;> rfl)
    (fun n => by simp only [L_spec_l14Reads_0, B_spec_l14Reads_0, List.length_map]; rw [decide_eq_false (by omega), cond_false]) l.length 0 fuel (by omega) (fuel_lt h)
  simp only [Int.natCast_zero] at this
  rw [this, cond_k, cond_true_false]
  rfl
theorem impl_rising_eq (t : Bool) (l : List Int) (h : l.length ≤ 1073741824) (k) : S_impl_rising t (l.map eI) 0 4 k = k (readsOk l) := by
  simp only [S_impl_rising, F_impl_rising, G_impl_rising_0, List.length_map]
  have := loop_all (L := L_impl_rising_0 S_impl_between (fun y => k y) (k true) t (l.map eI) 0 4 t (l.map eI) (l.length : Int)) (len := l.length) (f := stepR l) (kt := k true) (kf := k false)
    (fun n i hi => by
      simp only [L_impl_rising_0, B_impl_rising_0, at_i_map, List.length_map, stepR, impl_between_eq]
      rw [List.getElem?_eq_getElem hi, w64_succ (by omega), decide_eq_true (by omega), cond_true]
      simp only [Option.bind_some, Option.all_some]
      by_cases h0 : i = 0
      · subst h0
        have e0 : decide (((0 : Nat) : Int) > 0) = false := rfl
        simp only [e0, cond_false, decide_true, Bool.true_or, Bool.and_true]
      · have e0 : decide ((i : Int) > 0) = true := by simp; omega
        rw [w64_pred (by omega) (by omega)]
        simp only [e0, cond_true, at_i_map, prev_get hi, Option.bind_some, Option.all_some, h0, decide_false, Bool.false_or]
        generalize inB _ 0 4 = b1; generalize decide ((l[i-1]'(by omega)) ≥ l[i]) = b2
        cases b1 <;> cases b2 <;> rfl)
    (fun n => by simp only [L_impl_rising_0, B_impl_rising_0, List.length_map]; rw [decide_eq_false (by omega), cond_false]) l.length 0 fuel (by omega) (fuel_lt h)
  simp only [Int.natCast_zero] at this
  rw [this, cond_k, cond_true_false]
  rfl
theorem spec_WritesOk_eq (t : Bool) (l : List Wr) (h : WB l) (k) : S_spec_WritesOk t (l.map eWr) k = k (writesOk l) := by
  simp only [S_spec_WritesOk, F_spec_WritesOk, G_spec_WritesOk_0]
  have := loop_all (L := L_spec_WritesOk_0 S_spec_l1In S_spec_RowOk (fun y => k y) (k true) t (l.map eWr)) (len := l.length) (f := stepW l) (kt := k true) (kf := k false)
    (fun n i hi => by
      have hb := h.1
      simp only [L_spec_WritesOk_0, B_spec_WritesOk_0, at_ilb_map, List.length_map, stepW, spec_l1In_eq]
      rw [List.getElem?_eq_getElem hi, w64_succ (by omega), decide_eq_true (by omega), cond_true]
      simp only [Option.bind_some, Option.all_some, spec_RowOk_eq _ _ (h.2 _ (get_mem hi)), List.length_map]
      by_cases h0 : i = 0
      · subst h0
        have e0 : decide (((0 : Nat) : Int) > 0) = false := rfl
        simp only [e0, cond_false, decide_true, Bool.true_or, Bool.and_true]
        generalize inB _ 0 4 = b1; generalize rowOk _ = b2; generalize l[0].gone = b3; generalize decide ((l[0].row.length : Int) > 0) = b4
        cases b1 <;> cases b2 <;> cases b3 <;> cases b4 <;> rfl
      · have e0 : decide ((i : Int) > 0) = true := by simp; omega
        rw [w64_pred (by omega) (by omega)]
        simp only [e0, cond_true, at_ilb_map, prev_get hi, Option.bind_some, Option.all_some, h0, decide_false, Bool.false_or]
        generalize inB _ 0 4 = b1; generalize rowOk _ = b2; generalize l[i].gone = b3; generalize decide ((l[i].row.length : Int) > 0) = b4; generalize decide ((l[i-1]'(by omega)).key ≥ l[i].key) = b5
        cases b1 <;> cases b2 <;> cases b3 <;> cases b4 <;> cases b5 <;> rfl)
    (fun n => by simp only [L_spec_WritesOk_0, B_spec_WritesOk_0, List.length_map]; rw [decide_eq_false (by omega), cond_false]) l.length 0 fuel (by omega) (fuel_lt h.1)
  simp only [Int.natCast_zero] at this
  rw [this, cond_k, cond_true_false]
  rfl
theorem writes_len {l : List Wr} (h : writesOk l = true) : l.length ≤ 5 := by
  unfold writesOk at h
  rw [allFrom_true] at h
  have key : ∀ j (hj : j < l.length), (j : Int) ≤ l[j].key ∧ l[j].key ≤ 4 := by
    intro j
    induction j with
    | zero =>
      intro hj
      have := h 0 (by omega) (by omega)
      unfold stepW at this
      rw [List.getElem?_eq_getElem hj, Option.all_some, Bool.and_eq_true, inB_iff] at this
      exact ⟨this.1.1, this.1.2⟩
    | succ j ih =>
      intro hj
      have := h (j + 1) (by omega) (by omega)
      unfold stepW at this
      rw [List.getElem?_eq_getElem hj, Option.all_some, Bool.and_eq_true, inB_iff] at this
      obtain ⟨⟨_, h2⟩, h3⟩ := this
      simp only [Nat.add_sub_cancel, List.getElem?_eq_getElem (show j < l.length by omega), Option.all_some, Bool.and_eq_true, Bool.or_eq_true, decide_eq_true_eq, Bool.not_eq_true', decide_eq_false_iff_not] at h3
      have := ih (by omega)
      refine ⟨?_, h2⟩
      rcases h3.2.2 with h4 | h4
      · omega
      · omega
  by_cases h5 : l.length ≤ 5
  · exact h5
  · have := key 5 (by omega); omega
theorem impl_WritesOk_eq (t : Bool) (l : List Wr) (h : WB l) (k) : S_impl_WritesOk t (l.map eWr) k = k (writesOk l) := by
  simp only [S_impl_WritesOk, F_impl_WritesOk, G_impl_WritesOk_0, cond_k, cond_true_false, List.length_map]
  have := loop_all (L := L_impl_WritesOk_0 S_impl_keyOk S_impl_RowOk (fun y => k y) (fun y19t y19 => k (decide ((y19.length : Int) ≤ 5))) t (l.map eWr) t (l.map eWr) (l.length : Int)) (len := l.length) (f := stepW l) (kt := k (decide ((l.length : Int) ≤ 5))) (kf := k false)
    (fun n i hi => by
      have hb := h.1
      simp only [L_impl_WritesOk_0, B_impl_WritesOk_0, at_ilb_map, List.length_map, stepW, impl_keyOk_eq]
      rw [List.getElem?_eq_getElem hi, w64_succ (by omega), decide_eq_true (by omega), cond_true]
      simp only [Option.bind_some, Option.all_some, impl_RowOk_eq _ _ (h.2 _ (get_mem hi)), List.length_map]
      by_cases h0 : i = 0
      · subst h0
        have e0 : decide (((0 : Nat) : Int) > 0) = false := rfl
        simp only [e0, cond_false, decide_true, Bool.true_or, Bool.and_true]
        generalize inB _ 0 4 = b1; generalize rowOk _ = b2; generalize l[0].gone = b3; generalize decide ((l[0].row.length : Int) > 0) = b4
        cases b1 <;> cases b2 <;> cases b3 <;> cases b4 <;> rfl
      · have e0 : decide ((i : Int) > 0) = true := by simp; omega
        rw [w64_pred (by omega) (by omega)]
        simp only [e0, cond_true, at_ilb_map, prev_get hi, Option.bind_some, Option.all_some, h0, decide_false, Bool.false_or]
        generalize inB _ 0 4 = b1; generalize rowOk _ = b2; generalize l[i].gone = b3; generalize decide ((l[i].row.length : Int) > 0) = b4; generalize decide ((l[i-1]'(by omega)).key ≥ l[i].key) = b5
        cases b1 <;> cases b2 <;> cases b3 <;> cases b4 <;> cases b5 <;> rfl)
    (fun n => by simp only [L_impl_WritesOk_0, B_impl_WritesOk_0, List.length_map]; rw [decide_eq_false (by omega), cond_false]) l.length 0 fuel (by omega) (fuel_lt h.1)
  simp only [Int.natCast_zero] at this
  rw [this]
  cases hw : allFrom (stepW l) l.length 0 with
  | false => rw [show writesOk l = false from hw]; rfl
  | true =>
    have := writes_len (l := l) hw
    rw [show writesOk l = true from hw, cond_true, decide_eq_true (by omega)]
structure TB (v : Tx) : Prop where
  rd : v.rd.length ≤ 1073741824
  wr : WB v.wr
def txOk (c : Int) (v : Tx) : Bool :=
  bif v.st == 0 then v.bg == 0 && (v.en == 0 && (((v.rd.length : Int) == 0) && ((v.wr.length : Int) == 0)))
  else (inB v.bg 0 c && (readsOk v.rd && writesOk v.wr)) && (bif v.st == 2 then inB v.en (w64 (v.bg + 1)) c else ((v.st == 1 || v.st == 3) && v.en == 0))
theorem st_cases (n : Int) : n = 0 ∨ n = 1 ∨ n = 2 ∨ n = 3 ∨ ((n == 0) = false ∧ (n == 1) = false ∧ (n == 2) = false ∧ (n == 3) = false) := by
  by_cases h0 : n = 0
  · exact .inl h0
  by_cases h1 : n = 1
  · exact .inr (.inl h1)
  by_cases h2 : n = 2
  · exact .inr (.inr (.inl h2))
  by_cases h3 : n = 3
  · exact .inr (.inr (.inr (.inl h3)))
  exact .inr (.inr (.inr (.inr ⟨by simp [h0], by simp [h1], by simp [h2], by simp [h3]⟩)))
theorem impl_Txn_ok_eq (v : Tx) (h : TB v) (c : Int) (k) : S_impl_Txn_ok v.st v.bg v.en v.rt (v.rd.map eI) v.wt (v.wr.map eWr) c k = k (txOk c v) := by
  simp only [S_impl_Txn_ok, F_impl_Txn_ok, impl_between_eq, impl_rising_eq _ _ h.rd, impl_WritesOk_eq _ _ h.wr, cond_k, cond_true_false, List.length_map]
  congr 1
  unfold txOk
  have e1 : (v.en != 0) = !(v.en == 0) := rfl
  rw [e1]
  generalize inB v.bg 0 c = b1; generalize readsOk v.rd = b2; generalize writesOk v.wr = b3; generalize inB v.en _ c = b4; generalize (v.en == 0) = b5
  rcases st_cases v.st with h | h | h | h | ⟨h0, h1, h2, h3⟩
  · rw [h]; generalize (v.bg == 0) = b6; generalize ((v.rd.length : Int) == 0) = b7; generalize ((v.wr.length : Int) == 0) = b8
    cases b5 <;> cases b6 <;> cases b7 <;> cases b8 <;> rfl
  · rw [h]; cases b1 <;> cases b2 <;> cases b3 <;> cases b5 <;> rfl
  · rw [h]; cases b1 <;> cases b2 <;> cases b3 <;> cases b4 <;> rfl
  · rw [h]; cases b1 <;> cases b2 <;> cases b3 <;> cases b5 <;> rfl
  · rw [h0, h1, h2, h3]; cases b1 <;> cases b2 <;> cases b3 <;> rfl
theorem spec_l14Txn_eq (v : Tx) (h : TB v) (c : Int) (k) : S_spec_l14Txn v.st v.bg v.en v.rt (v.rd.map eI) v.wt (v.wr.map eWr) c k = k (txOk c v) := by
  simp only [S_spec_l14Txn, F_spec_l14Txn, G_spec_l14Txn_j0, B_spec_l14Txn_j0, spec_l1In_eq, spec_l14Reads_eq _ _ h.rd, spec_WritesOk_eq _ _ h.wr, cond_k, cond_true_false, List.length_map]
  congr 1
  unfold txOk
  generalize inB v.bg 0 c = b1; generalize readsOk v.rd = b2; generalize writesOk v.wr = b3; generalize inB v.en _ c = b4; generalize (v.en == 0) = b5
  generalize (v.bg == 0) = b6; generalize ((v.rd.length : Int) == 0) = b7; generalize ((v.wr.length : Int) == 0) = b8
  rcases st_cases v.st with h | h | h | h | ⟨h0, h1, h2, h3⟩
  · rw [h]; cases b5 <;> cases b6 <;> cases b7 <;> cases b8 <;> rfl
  · rw [h]; cases b1 <;> cases b2 <;> cases b3 <;> cases b5 <;> cases b6 <;> cases b7 <;> cases b8 <;> rfl
  · rw [h]; cases b1 <;> cases b2 <;> cases b3 <;> cases b4 <;> cases b6 <;> cases b7 <;> cases b8 <;> rfl
  · rw [h]; cases b1 <;> cases b2 <;> cases b3 <;> cases b5 <;> cases b6 <;> cases b7 <;> cases b8 <;> rfl
  · rw [h0, h1, h2, h3]; cases b1 <;> cases b2 <;> cases b3 <;> cases b6 <;> cases b7 <;> cases b8 <;> rfl
end Go.Den
end
section
namespace Go.Den
open Go
set_option linter.unusedVariables false
set_option linter.unusedSimpArgs false
def turnG (l : List Ver) (key : Int) (i : Nat) (a : Int) : Int := l[i]?.elim a fun v => bif v.key == key then (if v.died > (if v.born > a then v.born else a) then v.died else (if v.born > a then v.born else a)) else a
def lastTurn (l : List Ver) (key : Int) : Int := foldFrom (turnG l key) l.length 0 0
theorem impl_lastTurn_eq (t : Bool) (l : List Ver) (h : l.length ≤ 1073741824) (key : Int) (k) : S_impl_lastTurn t (l.map eVer) key k = k (lastTurn l key) := by
  simp only [S_impl_lastTurn, F_impl_lastTurn, G_impl_lastTurn_0, List.length_map]
  have := loop_fold (α := Int) (L := fun n a i => L_impl_lastTurn_0 (fun y11 => k y11) key t (l.map eVer) (l.length : Int) n a i) (len := l.length) (g := turnG l key) (k := k) (Inv := fun _ _ => True)
    (fun n i a hi _ => by
      simp only [L_impl_lastTurn_0, B_impl_lastTurn_0, at_iiil_map, turnG]
      rw [List.getElem?_eq_getElem hi, w64_succ (by omega), decide_eq_true (by omega), cond_true]
      simp only [Option.bind_some, Option.elim_some]
      cases (l[i].key == key) <;> rfl)
    (fun _ _ _ _ => trivial)
    (fun n a _ => by simp only [L_impl_lastTurn_0, B_impl_lastTurn_0]; rw [decide_eq_false (by omega), cond_false]) l.length 0 fuel 0 (by omega) (fuel_lt h) trivial
  simp only [Int.natCast_zero] at this
  exact this
theorem spec_LastTurn_eq (t : Bool) (l : List Ver) (h : VrB l) (key : Int) (k) : S_spec_LastTurn t (l.map eVer) key k = k (bif versionsOk l then lastTurn l key else 0) := by
  simp only [S_spec_LastTurn, F_spec_LastTurn, G_spec_LastTurn_0]
  cases hv : versionsOk l with
  | false =>
    obtain ⟨m, hf⟩ := fuel_succ
    rw [hf]
    simp only [L_spec_LastTurn_0, B_spec_LastTurn_0, spec_VersionsOk_eq _ _ h, hv, cond_false]
    cases decide ((0 : Int) < ((l.map eVer).length : Int)) <;> rfl
  | true =>
    have := loop_fold (α := Int) (L := fun n a i => L_spec_LastTurn_0 S_spec_VersionsOk (fun y19 => k y19) t (l.map eVer) key n a i) (len := l.length) (g := turnG l key) (k := k) (Inv := fun _ _ => True)
      (fun n i a hi _ => by
        have hb := h.1
        simp only [L_spec_LastTurn_0, B_spec_LastTurn_0, at_iiil_map, turnG, spec_VersionsOk_eq _ _ h, hv, cond_true, List.length_map]
        rw [List.getElem?_eq_getElem hi, w64_succ (by omega), decide_eq_true (by omega), cond_true]
        simp only [Option.bind_some, Option.elim_some]
        cases (l[i].key == key) <;> rfl)
      (fun _ _ _ _ => trivial)
      (fun n a _ => by simp only [L_spec_LastTurn_0, B_spec_LastTurn_0, List.length_map]; rw [decide_eq_false (by omega), cond_false]) l.length 0 fuel 0 (by omega) (fuel_lt h.1) trivial
    simp only [Int.natCast_zero] at this
    rw [this]; rfl
def maxG (l : List Ver) (i : Nat) (a : Int) : Int := if lastTurn l (i : Int) > a then lastTurn l (i : Int) else a
def turnAny (l : List Ver) : Int := foldFrom (maxG l) 5 0 0
theorem impl_turnAny_eq (t : Bool) (l : List Ver) (h : l.length ≤ 1073741824) (k) : S_impl_turnAny t (l.map eVer) k = k (turnAny l) := by
  simp only [S_impl_turnAny, F_impl_turnAny, G_impl_turnAny_0]
  have := loop_fold (α := Int) (L := fun n a i => L_impl_turnAny_0 S_impl_lastTurn (fun y6 => k y6) t (l.map eVer) n a i) (len := 5) (g := maxG l) (k := k) (Inv := fun _ _ => True)
    (fun n i a hi _ => by
      simp only [L_impl_turnAny_0, B_impl_turnAny_0, impl_lastTurn_eq _ _ h]
      rw [w64_succ (by omega), decide_eq_true (by omega), cond_true]
      rfl)
    (fun _ _ _ _ => trivial)
    (fun n a _ => by simp only [L_impl_turnAny_0, B_impl_turnAny_0]; rw [decide_eq_false (by omega), cond_false]) 5 0 fuel 0 (by omega) (fuel_lt (by omega)) trivial
  simp only [Int.natCast_zero] at this
  exact this
def turnsOk (l : List Ver) (c : Int) : Bool := allFrom (fun i => !decide (lastTurn l (i : Int) > c)) 5 0
theorem turnAny_le {l : List Ver} {c : Int} (hc : 0 ≤ c) : decide (turnAny l > c) = !turnsOk l c := by
  have key : ∀ n i a, decide (foldFrom (maxG l) n i a > c) = !(decide (a ≤ c) && allFrom (fun i => !decide (lastTurn l (i : Int) > c)) n i) := by
    intro n
    induction n with
    | zero => intro i a; simp only [foldFrom, allFrom, Bool.and_true]; rw [Bool.eq_iff_iff]; simp
    | succ n ih =>
      intro i a
      have e : foldFrom (maxG l) (n + 1) i a = foldFrom (maxG l) n (i + 1) (maxG l i a) := rfl
      rw [e, ih]
      simp only [allFrom]
      congr 1
      rw [← Bool.and_assoc]
      congr 1
      unfold maxG
      rw [Bool.eq_iff_iff]
      split <;> simp <;> omega
  unfold turnAny turnsOk
  rw [key, decide_eq_true hc, Bool.true_and]
def doneAt (x : Int) (u : Tx) : Bool := u.st == 2 && x == u.en
def stepT (c : Int) (l : List Tx) (i : Nat) : Bool := l[i]?.all fun v => txOk c v && !(v.st == 2 && (l.take i).any (doneAt v.en))
def txsOk (c : Int) (l : List Tx) : Bool := allFrom (stepT c l) 4 0
def houseOk (l : List Ver) (c : Int) (x : List Tx) : Bool := versionsOk l && (inB c 0 40 && (turnsOk l c && (((x.length : Int) == 4) && txsOk c x)))
theorem loop_allS {σ : Type} {L : Nat → Int → σ → Option FR} {len : Nat} {f : Nat → Bool} {kt kf : Option FR} {Inv : Nat → σ → Prop}
    (hs : ∀ n i s, i < len → Inv i s → (f i = true → ∃ s', Inv (i + 1) s' ∧ L (n + 1) (i : Int) s = L n ((i + 1 : Nat) : Int) s') ∧ (f i = false → L (n + 1) (i : Int) s = kf)) (he : ∀ n s, L (n + 1) (len : Int) s = kt) :
    ∀ c i n s, i + c = len → c < n → Inv i s → L n (i : Int) s = bif allFrom f c i then kt else kf
  | 0, i, n + 1, s, h, _, _ => by
    have : i = len := by omega
    subst this
    simpa [allFrom] using he n s
  | c + 1, i, n + 1, s, h, hn, hI => by
    obtain ⟨h1, h2⟩ := hs n i s (by omega) hI
    simp only [allFrom]
    cases hf : f i with
    | true =>
      obtain ⟨s', hI', e⟩ := h1 hf
      rw [e, loop_allS hs he c (i + 1) n s' (by omega) (by omega) hI']
      simp
    | false => rw [h2 hf]; rfl
  | c, i, 0, s, h, hn, _ => by omega
theorem entLook_put (x y : Int) (v : Value) : ∀ es, entLook x (entPut y v es) = bif x == y then some v else entLook x es
  | [] => by simp only [entPut, entLook]
  | (k, u) :: r => by
    simp only [entPut]
    cases hk : y == k with
    | true =>
      simp only [cond_true, entLook]
      have : y = k := by simpa using hk
      subst this
      cases x == y <;> rfl
    | false =>
      simp only [cond_false, entLook, entLook_put x y v r]
      cases hx : x == k with
      | true =>
        have : x = k := by simpa using hx
        subst this
        have : (x == y) = false := by rw [beq_eq_false_iff_ne] at hk ⊢; exact fun e => hk e.symm
        rw [this]; rfl
      | false => cases x == y <;> rfl
theorem look_b_eq {n : Int} {es : List (Int × Value)} {b : Bool} (h : entLook n es = bif b then some (.bool true) else none) (k) : look_b n es k = k b := by
  unfold look_b look_
  rw [h]
  cases b <;> rfl
theorem take_any_succ {α : Type} {l : List α} {i : Nat} (h : i < l.length) (p : α → Bool) : (l.take (i + 1)).any p = ((l.take i).any p || p l[i]) := by
  rw [List.take_succ_eq_append_getElem h, List.any_append]
  simp
theorem impl_HouseOk_eq (t t' : Bool) (l : List Ver) (hl : VrB l) (c : Int) (x : List Tx) (hx : ∀ v ∈ x, TB v) (k) : S_impl_HouseOk t (l.map eVer) c t' (x.map eTx) k = k (houseOk l c x) := by
  simp only [S_impl_HouseOk, F_impl_HouseOk, G_impl_HouseOk_0, impl_VersionsOk_eq _ _ hl, impl_between_eq, impl_turnAny_eq _ _ hl.1, List.length_map]
  unfold houseOk
  cases versionsOk l with
  | false => rfl
  | true =>
    cases hc : inB c 0 40 with
    | false => rfl
    | true =>
      have h0 := (inB_iff.1 hc).1
      simp only [cond_true, Bool.true_and]
      rw [turnAny_le h0]
      cases turnsOk l c with
      | false => rfl
      | true =>
        simp only [Bool.not_true, cond_false, Bool.true_and]
        by_cases h4 : x.length = 4
        · have e4 : ((x.length : Int) != 4) = false := by simp [h4]
          have e4' : ((x.length : Int) == 4) = true := by simp [h4]
          rw [e4, e4', cond_false, Bool.true_and]
          have := loop_allS (σ := List (Int × Value)) (L := fun n i s => L_impl_HouseOk_0 S_impl_Txn_ok (fun y19 => k y19) (k true) t' (x.map eTx) (x.length : Int) t (l.map eVer) c t' (x.map eTx) n i s) (len := 4) (f := stepT c x) (kt := k true) (kf := k false)
            (Inv := fun i s => ∀ y, entLook y s = bif (x.take i).any (doneAt y) then some (.bool true) else none)
            (fun n i s hi hI => by
              have hi' : i < x.length := by omega
              simp only [L_impl_HouseOk_0, B_impl_HouseOk_0, at_iiill_map, stepT]
              rw [List.getElem?_eq_getElem hi', w64_succ (by omega), decide_eq_true (by omega), cond_true]
              simp only [Option.bind_some, Option.all_some, impl_Txn_ok_eq _ (hx _ (get_mem hi')), look_b_eq (hI x[i].en)]
              cases txOk c x[i] with
              | false => exact ⟨fun h => (by cases h), fun _ => rfl⟩
              | true =>
                simp only [cond_true, Bool.true_and]
                cases hst : x[i].st == 2 with
                | false =>
                  refine ⟨fun _ => ⟨s, fun y => ?_, rfl⟩, fun h => by cases h⟩
                  rw [hI y, take_any_succ hi']
                  simp only [doneAt, hst, Bool.false_and, Bool.or_false]
                | true =>
                  simp only [cond_true, Bool.true_and]
                  cases hd : (x.take i).any (doneAt x[i].en) with
                  | true => exact ⟨fun h => (by cases h), fun _ => rfl⟩
                  | false =>
                    refine ⟨fun _ => ⟨_, fun y => ?_, rfl⟩, fun h => by cases h⟩
                    rw [entLook_put, hI y, take_any_succ hi']
                    simp only [doneAt, hst, Bool.true_and]
                    cases hy : y == x[i].en with
                    | true => simp
                    | false => simp)
            (fun n s => by simp only [L_impl_HouseOk_0, B_impl_HouseOk_0]; rw [decide_eq_false (by omega), cond_false]) 4 0 fuel [] (by omega) (fuel_lt (by omega)) (fun y => by simp [entLook])
          simp only [Int.natCast_zero] at this
          rw [this, cond_k, cond_true_false]
          rfl
        · have e4 : ((x.length : Int) != 4) = true := by simp; omega
          have e4' : ((x.length : Int) == 4) = false := by simp; omega
          rw [e4, e4']; rfl
theorem allFrom_take {α : Type} {l : List α} {p : α → Bool} : ∀ {i : Nat}, i ≤ l.length → allFrom (fun j => l[j]?.all p) i 0 = (l.take i).all p := by
  intro i hi
  rw [Bool.eq_iff_iff, allFrom_true, List.all_eq_true]
  constructor
  · intro h x hx
    obtain ⟨j, hj, e⟩ := List.getElem_of_mem hx
    have hj' : j < i := by simpa using (Nat.lt_of_lt_of_le hj (by simp; omega))
    have := h j (by omega) (by omega)
    rw [List.getElem?_eq_getElem (by omega), Option.all_some] at this
    rw [← e, List.getElem_take]; exact this
  · intro h j h1 h2
    rw [List.getElem?_eq_getElem (show j < l.length by omega), Option.all_some]
    refine h _ ?_
    have : (l.take i)[j]'(by simp; omega) = l[j]'(by omega) := List.getElem_take
    rw [← this]
    exact List.getElem_mem _
theorem spec_HouseOk_eq (t t' : Bool) (l : List Ver) (hl : VrB l) (c : Int) (x : List Tx) (hx : ∀ v ∈ x, TB v) (k) : S_spec_HouseOk t (l.map eVer) c t' (x.map eTx) k = k (houseOk l c x) := by
  simp only [S_spec_HouseOk, F_spec_HouseOk, G_spec_HouseOk_0, G_spec_HouseOk_2, spec_VersionsOk_eq _ _ hl, spec_l1In_eq, List.length_map]
  unfold houseOk
  cases hv : versionsOk l with
  | false => rfl
  | true =>
    cases hc : inB c 0 40 with
    | false => rfl
    | true =>
      simp only [cond_true, Bool.true_and]
      by_cases h4 : x.length = 4
      · have e4 : ((x.length : Int) != 4) = false := by simp [h4]
        have e4' : ((x.length : Int) == 4) = true := by simp [h4]
        rw [e4, e4', cond_false, Bool.true_and]
        have h2 : L_spec_HouseOk_2 S_spec_l14Txn G_spec_HouseOk_1 (fun y62 => k y62) (k true) fuel 0 t (l.map eVer) c t' (x.map eTx) = k (txsOk c x) := by
          have := loop_all (L := fun n i => L_spec_HouseOk_2 S_spec_l14Txn G_spec_HouseOk_1 (fun y62 => k y62) (k true) n i t (l.map eVer) c t' (x.map eTx)) (len := 4) (f := stepT c x) (kt := k true) (kf := k false)
            (fun n i hi => by
              have hi' : i < x.length := by omega
              simp only [L_spec_HouseOk_2, B_spec_HouseOk_2, at_iiill_map, stepT, G_spec_HouseOk_1]
              rw [List.getElem?_eq_getElem hi', decide_eq_true (by omega), cond_true]
              simp only [Option.bind_some, Option.all_some, spec_l14Txn_eq _ (hx _ (get_mem hi'))]
              cases txOk c x[i] with
              | false => rfl
              | true =>
                simp only [cond_true, Bool.true_and]
                have h1 := loop_all (L := fun m j => L_spec_HouseOk_1 (fun y56 => k y56) (fun y57 y58t y58 y59 y60t y60 => L_spec_HouseOk_2 S_spec_l14Txn G_spec_HouseOk_1 (fun y62 => k y62) (k true) n (w64 (y57 + 1)) y58t y58 y59 y60t y60) (i : Int) t (l.map eVer) c t' (x.map eTx) m j) (len := i)
                  (f := fun j => x[j]?.all fun u => !(x[i].st == 2 && doneAt x[i].en u)) (kt := L_spec_HouseOk_2 S_spec_l14Txn G_spec_HouseOk_1 (fun y62 => k y62) (k true) n (w64 ((i : Int) + 1)) t (l.map eVer) c t' (x.map eTx)) (kf := k false)
                  (fun m j hj => by
                    have hj' : j < x.length := by omega
                    simp only [L_spec_HouseOk_1, B_spec_HouseOk_1, at_iiill_map]
                    rw [List.getElem?_eq_getElem hi', List.getElem?_eq_getElem hj', w64_succ (by omega), decide_eq_true (by omega), cond_true]
                    simp only [Option.bind_some, Option.all_some, doneAt]
                    generalize (x[i].st == 2) = b1; generalize (x[j].st == 2) = b2; generalize (x[i].en == x[j].en) = b3
                    cases b1 <;> cases b2 <;> cases b3 <;> rfl)
                  (fun m => by simp only [L_spec_HouseOk_1, B_spec_HouseOk_1]; rw [decide_eq_false (by omega), cond_false]) i 0 fuel (by omega) (fuel_lt (by omega))
                simp only [Int.natCast_zero] at h1
                rw [h1, allFrom_take (by omega), w64_succ (by omega)]
                congr 1
                generalize (x[i].st == 2) = b
                cases b with
                | false => simp
                | true => simp only [Bool.true_and]; rw [List.not_any_eq_all_not])
            (fun n => by simp only [L_spec_HouseOk_2, B_spec_HouseOk_2]; rw [decide_eq_false (by omega), cond_false]) 4 0 fuel (by omega) (fuel_lt (by omega))
          simp only [Int.natCast_zero] at this
          rw [this, cond_k, cond_true_false]
          rfl
        have := loop_all (L := L_spec_HouseOk_0 S_spec_LastTurn (fun y12 => k y12) (fun y13t y13 y14 y15t y15 => L_spec_HouseOk_2 S_spec_l14Txn G_spec_HouseOk_1 (fun y62 => k y62) (k true) fuel 0 y13t y13 y14 y15t y15) t (l.map eVer) c t' (x.map eTx)) (len := 5)
          (f := fun i => !decide (lastTurn l (i : Int) > c)) (kt := k (txsOk c x)) (kf := k false)
          (fun n i hi => by
            simp only [L_spec_HouseOk_0, B_spec_HouseOk_0, spec_LastTurn_eq _ _ hl, hv, cond_true]
            rw [w64_succ (by omega), decide_eq_true (show (i : Int) < 5 by omega), cond_true]
            cases decide (lastTurn l (i : Int) > c) <;> rfl)
          (fun n => by simp only [L_spec_HouseOk_0, B_spec_HouseOk_0]; rw [decide_eq_false (by omega), cond_false]; exact h2) 5 0 fuel (by omega) (fuel_lt (by omega))
        simp only [Int.natCast_zero] at this
        rw [this, cond_k]
        unfold turnsOk
        cases allFrom _ 5 0 <;> rfl
      · have e4 : ((x.length : Int) != 4) = true := by simp; omega
        have e4' : ((x.length : Int) == 4) = false := by simp; omega
        rw [e4, e4']; simp
end Go.Den
end
section
namespace Go.Den
open Go
set_option linter.unusedVariables false
set_option linter.unusedSimpArgs false
theorem find_congr {α : Type} {p q : α → Bool} : ∀ {l : List α}, (∀ v ∈ l, p v = q v) → l.find? p = l.find? q
  | [], _ => rfl
  | x :: r, h => by
    rw [List.find?_cons, List.find?_cons, h x (by simp), find_congr (fun v hv => h v (by simp [hv]))]
theorem turnG_ge (l : List Ver) (key : Int) (i : Nat) (a : Int) : a ≤ turnG l key i a := by
  unfold turnG
  cases l[i]? with
  | none => exact Int.le_refl a
  | some v =>
    simp only [Option.elim_some]
    cases v.key == key with
    | false => exact Int.le_refl a
    | true => simp only [cond_true]; split <;> split <;> omega
theorem fold_ge (l : List Ver) (key : Int) : ∀ c i a, a ≤ foldFrom (turnG l key) c i a
  | 0, _, a => Int.le_refl a
  | c + 1, i, a => Int.le_trans (turnG_ge l key i a) (fold_ge l key c (i + 1) _)
theorem fold_at (l : List Ver) (key : Int) : ∀ c i a j (hj : j < l.length), i ≤ j → j < i + c → l[j].key = key → l[j].born ≤ foldFrom (turnG l key) c i a ∧ l[j].died ≤ foldFrom (turnG l key) c i a
  | 0, i, a, j, hj, h1, h2, _ => by omega
  | c + 1, i, a, j, hj, h1, h2, hk => by
    have e : foldFrom (turnG l key) (c + 1) i a = foldFrom (turnG l key) c (i + 1) (turnG l key i a) := rfl
    rw [e]
    by_cases h : j = i
    · subst h
      have g := fold_ge l key c (j + 1) (turnG l key j a)
      have t : l[j].born ≤ turnG l key j a ∧ l[j].died ≤ turnG l key j a := by
        unfold turnG
        rw [List.getElem?_eq_getElem hj, Option.elim_some, hk]
        simp only [beq_self_eq_true, cond_true]
        split <;> split <;> omega
      exact ⟨by omega, by omega⟩
    · exact fold_at l key c (i + 1) _ j hj (by omega) (by omega) hk
theorem house_now {l : List Ver} {c : Int} {x : List Tx} (h : houseOk l c x = true) : rowsAt l (c + 1) = rowsAt l c := by
  unfold houseOk at h
  simp only [Bool.and_eq_true] at h
  obtain ⟨hv, hc, ht, _⟩ := h
  have hc := inB_iff.1 hc
  unfold versionsOk at hv
  rw [Bool.and_eq_true, allFrom_true] at hv
  unfold turnsOk at ht
  rw [allFrom_true] at ht
  have mem : ∀ v ∈ l, v.born ≤ c ∧ v.died ≤ c := by
    intro v hm
    obtain ⟨j, hj, rfl⟩ := List.getElem_of_mem hm
    have hok := stepV_verOk (hv.1 j (by omega) (by omega)) (List.getElem?_eq_getElem hj)
    unfold verOk at hok
    rw [Bool.and_eq_true, inB_iff] at hok
    obtain ⟨n, hn⟩ : ∃ n : Nat, l[j].key = (n : Int) := ⟨l[j].key.toNat, by omega⟩
    have h5 := ht n (by omega) (by omega)
    simp only [Bool.not_eq_true', decide_eq_false_iff_not] at h5
    obtain ⟨h6, h7⟩ := fold_at l (n : Int) l.length 0 0 j hj (by omega) (by omega) hn
    unfold lastTurn at h5
    exact ⟨by omega, by omega⟩
  have seen : ∀ key, seenAt l key (c + 1) = seenAt l key c := by
    intro key
    unfold seenAt
    refine find_congr (fun v hm => ?_)
    obtain ⟨h1, h2⟩ := mem v hm
    unfold seenP
    have e1 : decide (v.born ≤ c + 1) = decide (v.born ≤ c) := by rw [decide_eq_true h1, decide_eq_true (by omega)]
    have e2 : decide (v.died > c + 1) = decide (v.died > c) := by rw [decide_eq_false (by omega), decide_eq_false (by omega)]
    rw [e1, e2]
  have key : ∀ n i, rowsFrom l (c + 1) n i = rowsFrom l c n i := by
    intro n
    induction n with
    | zero => intro i; rfl
    | succ n ih => intro i; simp only [rowsFrom, seen, ih]
  exact key 5 0
theorem impl_RowsNow_eq (t t' : Bool) (l : List Ver) (hl : VrB l) (c : Int) (x : List Tx) (hx : ∀ v ∈ x, TB v) (k) :
    S_impl_RowsNow t (l.map eVer) c t' (x.map eTx) k = k true ((bif houseOk l c x then (rowsAt l c).map clr else []).map eRw) := by
  simp only [S_impl_RowsNow, F_impl_RowsNow, impl_HouseOk_eq _ _ _ hl _ _ hx, impl_RowsAt_eq _ _ hl]
  cases h : houseOk l c x with
  | false => rfl
  | true =>
    have : versionsOk l = true := by unfold houseOk at h; rw [Bool.and_eq_true] at h; exact h.1
    rw [this]; rfl
theorem spec_RowsNow_eq (t t' : Bool) (l : List Ver) (hl : VrB l) (c : Int) (x : List Tx) (hx : ∀ v ∈ x, TB v) :
    ∃ t'', ∀ k, S_spec_RowsNow t (l.map eVer) c t' (x.map eTx) k = k t'' ((bif houseOk l c x then (rowsAt l c).map clrF else []).map eRw) := by
  obtain ⟨t1, h1⟩ := spec_RowsAt_eq t l hl c
  refine ⟨bif houseOk l c x then t1 else true, fun k => ?_⟩
  simp only [S_spec_RowsNow, F_spec_RowsNow, spec_HouseOk_eq _ _ _ hl _ _ hx, h1]
  cases h : houseOk l c x with
  | false => rfl
  | true =>
    have : versionsOk l = true := by unfold houseOk at h; rw [Bool.and_eq_true] at h; exact h.1
    rw [this]; rfl
theorem laws_alive_eq (k) : S_laws_alive k = k true := by
  simp only [S_laws_alive, F_laws_alive, S_impl_ValueOk, F_impl_ValueOk]
  have h1 := fun k => impl_Value_ok_eq ⟨1, 3, bs []⟩ (by unfold VB; exact Nat.zero_le _) k
  have h2 := fun k => impl_Value_ok_eq ⟨9, 0, bs []⟩ (by unfold VB; exact Nat.zero_le _) k
  simp only at h1 h2
  simp only [h1, h2, cond_k]
  have e1 : valOk ⟨1, 3, bs []⟩ = true := by
    unfold valOk emptyB
    simp only [beq_self_eq_true, Bool.true_and]
    rfl
  have e2 : valOk ⟨9, 0, bs []⟩ = false := rfl
  rw [e1, e2]; rfl
theorem rows_rb {l : List Ver} (hl : VrB l) (c : Int) : ∀ v ∈ rowsAt l c, v.row.length ≤ 1073741824 := fun v hv => by
  obtain ⟨u, hu, e⟩ := rowsFrom_mem hv
  rw [e]; exact (hl.2 u hu).1
theorem law_behind (t t' : Bool) (l : List Ver) (hl : VrB l) (c : Int) (x : List Tx) (hx : ∀ v ∈ x, TB v) (s_draw : T_spec_DrawRowsNow) (p1t : Bool) (p1 : List (List RD)) (hd : ∀ k, s_draw p1t p1 k = k t (l.map eVer) c t' (x.map eTx)) (k) :
    F_laws_FnRowsNow s_draw S_impl_RowsNow S_spec_RowsNow S_laws_sameRows S_impl_HouseOk S_impl_RowsAt S_laws_alive p1t p1 k = k true := by
  unfold F_laws_FnRowsNow
  cases decide ((p1.length : Int) > 1048576) with
  | true => rfl
  | false =>
    obtain ⟨t2, h2⟩ := spec_RowsNow_eq t t' l hl c x hx
    simp only [cond_false, hd, impl_RowsNow_eq _ _ _ hl _ _ hx, h2, impl_HouseOk_eq _ _ _ hl _ _ hx, impl_RowsAt_eq _ _ hl, laws_alive_eq, cond_true]
    have len : ∀ c, (rowsAt l c).length ≤ 5 := fun c => rowsFrom_length l c 5 0
    rw [laws_sameRows_same]
    · cases h : houseOk l c x with
      | false => simp
      | true =>
        have hv : versionsOk l = true := by unfold houseOk at h; rw [Bool.and_eq_true] at h; exact h.1
        have hc : 0 ≤ c ∧ c ≤ 40 := by
          unfold houseOk at h
          simp only [Bool.and_eq_true] at h
          exact inB_iff.1 h.2.1
        rw [w64_id (by omega) (by omega), hv, house_now h]
        simp only [cond_true]
        have same : ∀ t3 k, S_laws_sameRows t3 (((rowsAt l c).map clr).map eRw) true (((rowsAt l c).map clr).map eRw) k = k true := fun t3 k =>
          laws_sameRows_same _ _ _ _ rfl (by have := len c; simp; omega) (fun v hv => by
            obtain ⟨u, hu, rfl⟩ := List.mem_map.1 hv
            exact rows_rb hl c u hu) k
        simp only [same, cond_true]
    · cases houseOk l c x with
      | false => rfl
      | true => simp [clr, clrF, Function.comp_def]
    · have := len c
      cases houseOk l c x <;> simp <;> omega
    · intro v hv
      cases h : houseOk l c x with
      | false => rw [h] at hv; cases hv
      | true =>
        rw [h] at hv
        obtain ⟨u, hu, rfl⟩ := List.mem_map.1 hv
        exact rows_rb hl c u hu
end Go.Den
end
section
namespace Go.Den
open Go
set_option linter.unusedVariables false
set_option linter.unusedSimpArgs false
def Goal {K : Type} (P : (K → Option FR) → Prop) (F : K → Option FR) : Prop := P F
def P0 (Q : Prop) (F : (Option FR) → Option FR) : Prop := Q ∧ ∀ k, F k = k
theorem Goal.bind0 {K : Type} {P : (K → Option FR) → Prop} {S : (Option FR) → Option FR} {Q : Prop} (h : P0 Q S) {cont : K → Option FR} (hc : Q  → Goal P (fun k => cont k )) : Goal P (fun k => S (cont k)) := by
  obtain ⟨hq, e⟩ := h
  have : (fun k => S (cont k)) = fun k => cont k  := funext fun k => e _
  rw [this]
  exact hc hq
theorem Goal.leaf0 {Q : Prop}  (h : Q ) : Goal (P0 Q) (fun k => k ) := ⟨h, fun _ => rfl⟩
theorem P0.mono {Q Q' : Prop} {F : (Option FR) → Option FR} (h : P0 Q F) (hq : Q  → Q' ) : P0 Q' F := by
  obtain ⟨h1, h2⟩ := h
  exact ⟨hq h1, h2⟩
def P1 {A0 : Type} (Q : A0 → Prop) (F : (A0 → Option FR) → Option FR) : Prop := ∃ x0, Q x0 ∧ ∀ k, F k = k x0
theorem Goal.bind1 {A0 : Type} {K : Type} {P : (K → Option FR) → Prop} {S : (A0 → Option FR) → Option FR} {Q : A0 → Prop} (h : P1 Q S) {cont : K → A0 → Option FR} (hc : ∀ x0, Q x0 → Goal P (fun k => cont k x0)) : Goal P (fun k => S (cont k)) := by
  obtain ⟨x0, hq, e⟩ := h
  have : (fun k => S (cont k)) = fun k => cont k x0 := funext fun k => e _
  rw [this]
  exact hc _ hq
theorem Goal.leaf1 {A0 : Type} {Q : A0 → Prop} {x0 : A0} (h : Q x0) : Goal (P1 Q) (fun k => k x0) := ⟨_, h, fun _ => rfl⟩
theorem P1.mono {A0 : Type} {Q Q' : A0 → Prop} {F : (A0 → Option FR) → Option FR} (h : P1 Q F) (hq : ∀ x0, Q x0 → Q' x0) : P1 Q' F := by
  obtain ⟨x0, h1, h2⟩ := h
  exact ⟨x0, hq _ h1, h2⟩
def P2 {A0 A1 : Type} (Q : A0 → A1 → Prop) (F : (A0 → A1 → Option FR) → Option FR) : Prop := ∃ x0 x1, Q x0 x1 ∧ ∀ k, F k = k x0 x1
theorem Goal.bind2 {A0 A1 : Type} {K : Type} {P : (K → Option FR) → Prop} {S : (A0 → A1 → Option FR) → Option FR} {Q : A0 → A1 → Prop} (h : P2 Q S) {cont : K → A0 → A1 → Option FR} (hc : ∀ x0 x1, Q x0 x1 → Goal P (fun k => cont k x0 x1)) : Goal P (fun k => S (cont k)) := by
  obtain ⟨x0, x1, hq, e⟩ := h
  have : (fun k => S (cont k)) = fun k => cont k x0 x1 := funext fun k => e _
  rw [this]
  exact hc _ _ hq
theorem Goal.leaf2 {A0 A1 : Type} {Q : A0 → A1 → Prop} {x0 : A0} {x1 : A1} (h : Q x0 x1) : Goal (P2 Q) (fun k => k x0 x1) := ⟨_, _, h, fun _ => rfl⟩
theorem P2.mono {A0 A1 : Type} {Q Q' : A0 → A1 → Prop} {F : (A0 → A1 → Option FR) → Option FR} (h : P2 Q F) (hq : ∀ x0 x1, Q x0 x1 → Q' x0 x1) : P2 Q' F := by
  obtain ⟨x0, x1, h1, h2⟩ := h
  exact ⟨x0, x1, hq _ _ h1, h2⟩
def P3 {A0 A1 A2 : Type} (Q : A0 → A1 → A2 → Prop) (F : (A0 → A1 → A2 → Option FR) → Option FR) : Prop := ∃ x0 x1 x2, Q x0 x1 x2 ∧ ∀ k, F k = k x0 x1 x2
theorem Goal.bind3 {A0 A1 A2 : Type} {K : Type} {P : (K → Option FR) → Prop} {S : (A0 → A1 → A2 → Option FR) → Option FR} {Q : A0 → A1 → A2 → Prop} (h : P3 Q S) {cont : K → A0 → A1 → A2 → Option FR} (hc : ∀ x0 x1 x2, Q x0 x1 x2 → Goal P (fun k => cont k x0 x1 x2)) : Goal P (fun k => S (cont k)) := by
  obtain ⟨x0, x1, x2, hq, e⟩ := h
  have : (fun k => S (cont k)) = fun k => cont k x0 x1 x2 := funext fun k => e _
  rw [this]
  exact hc _ _ _ hq
theorem Goal.leaf3 {A0 A1 A2 : Type} {Q : A0 → A1 → A2 → Prop} {x0 : A0} {x1 : A1} {x2 : A2} (h : Q x0 x1 x2) : Goal (P3 Q) (fun k => k x0 x1 x2) := ⟨_, _, _, h, fun _ => rfl⟩
theorem P3.mono {A0 A1 A2 : Type} {Q Q' : A0 → A1 → A2 → Prop} {F : (A0 → A1 → A2 → Option FR) → Option FR} (h : P3 Q F) (hq : ∀ x0 x1 x2, Q x0 x1 x2 → Q' x0 x1 x2) : P3 Q' F := by
  obtain ⟨x0, x1, x2, h1, h2⟩ := h
  exact ⟨x0, x1, x2, hq _ _ _ h1, h2⟩
def P4 {A0 A1 A2 A3 : Type} (Q : A0 → A1 → A2 → A3 → Prop) (F : (A0 → A1 → A2 → A3 → Option FR) → Option FR) : Prop := ∃ x0 x1 x2 x3, Q x0 x1 x2 x3 ∧ ∀ k, F k = k x0 x1 x2 x3
theorem Goal.bind4 {A0 A1 A2 A3 : Type} {K : Type} {P : (K → Option FR) → Prop} {S : (A0 → A1 → A2 → A3 → Option FR) → Option FR} {Q : A0 → A1 → A2 → A3 → Prop} (h : P4 Q S) {cont : K → A0 → A1 → A2 → A3 → Option FR} (hc : ∀ x0 x1 x2 x3, Q x0 x1 x2 x3 → Goal P (fun k => cont k x0 x1 x2 x3)) : Goal P (fun k => S (cont k)) := by
  obtain ⟨x0, x1, x2, x3, hq, e⟩ := h
  have : (fun k => S (cont k)) = fun k => cont k x0 x1 x2 x3 := funext fun k => e _
  rw [this]
  exact hc _ _ _ _ hq
theorem Goal.leaf4 {A0 A1 A2 A3 : Type} {Q : A0 → A1 → A2 → A3 → Prop} {x0 : A0} {x1 : A1} {x2 : A2} {x3 : A3} (h : Q x0 x1 x2 x3) : Goal (P4 Q) (fun k => k x0 x1 x2 x3) := ⟨_, _, _, _, h, fun _ => rfl⟩
theorem P4.mono {A0 A1 A2 A3 : Type} {Q Q' : A0 → A1 → A2 → A3 → Prop} {F : (A0 → A1 → A2 → A3 → Option FR) → Option FR} (h : P4 Q F) (hq : ∀ x0 x1 x2 x3, Q x0 x1 x2 x3 → Q' x0 x1 x2 x3) : P4 Q' F := by
  obtain ⟨x0, x1, x2, x3, h1, h2⟩ := h
  exact ⟨x0, x1, x2, x3, hq _ _ _ _ h1, h2⟩
def P5 {A0 A1 A2 A3 A4 : Type} (Q : A0 → A1 → A2 → A3 → A4 → Prop) (F : (A0 → A1 → A2 → A3 → A4 → Option FR) → Option FR) : Prop := ∃ x0 x1 x2 x3 x4, Q x0 x1 x2 x3 x4 ∧ ∀ k, F k = k x0 x1 x2 x3 x4
theorem Goal.bind5 {A0 A1 A2 A3 A4 : Type} {K : Type} {P : (K → Option FR) → Prop} {S : (A0 → A1 → A2 → A3 → A4 → Option FR) → Option FR} {Q : A0 → A1 → A2 → A3 → A4 → Prop} (h : P5 Q S) {cont : K → A0 → A1 → A2 → A3 → A4 → Option FR} (hc : ∀ x0 x1 x2 x3 x4, Q x0 x1 x2 x3 x4 → Goal P (fun k => cont k x0 x1 x2 x3 x4)) : Goal P (fun k => S (cont k)) := by
  obtain ⟨x0, x1, x2, x3, x4, hq, e⟩ := h
  have : (fun k => S (cont k)) = fun k => cont k x0 x1 x2 x3 x4 := funext fun k => e _
  rw [this]
  exact hc _ _ _ _ _ hq
theorem Goal.leaf5 {A0 A1 A2 A3 A4 : Type} {Q : A0 → A1 → A2 → A3 → A4 → Prop} {x0 : A0} {x1 : A1} {x2 : A2} {x3 : A3} {x4 : A4} (h : Q x0 x1 x2 x3 x4) : Goal (P5 Q) (fun k => k x0 x1 x2 x3 x4) := ⟨_, _, _, _, _, h, fun _ => rfl⟩
theorem P5.mono {A0 A1 A2 A3 A4 : Type} {Q Q' : A0 → A1 → A2 → A3 → A4 → Prop} {F : (A0 → A1 → A2 → A3 → A4 → Option FR) → Option FR} (h : P5 Q F) (hq : ∀ x0 x1 x2 x3 x4, Q x0 x1 x2 x3 x4 → Q' x0 x1 x2 x3 x4) : P5 Q' F := by
  obtain ⟨x0, x1, x2, x3, x4, h1, h2⟩ := h
  exact ⟨x0, x1, x2, x3, x4, hq _ _ _ _ _ h1, h2⟩
def P6 {A0 A1 A2 A3 A4 A5 : Type} (Q : A0 → A1 → A2 → A3 → A4 → A5 → Prop) (F : (A0 → A1 → A2 → A3 → A4 → A5 → Option FR) → Option FR) : Prop := ∃ x0 x1 x2 x3 x4 x5, Q x0 x1 x2 x3 x4 x5 ∧ ∀ k, F k = k x0 x1 x2 x3 x4 x5
theorem Goal.bind6 {A0 A1 A2 A3 A4 A5 : Type} {K : Type} {P : (K → Option FR) → Prop} {S : (A0 → A1 → A2 → A3 → A4 → A5 → Option FR) → Option FR} {Q : A0 → A1 → A2 → A3 → A4 → A5 → Prop} (h : P6 Q S) {cont : K → A0 → A1 → A2 → A3 → A4 → A5 → Option FR} (hc : ∀ x0 x1 x2 x3 x4 x5, Q x0 x1 x2 x3 x4 x5 → Goal P (fun k => cont k x0 x1 x2 x3 x4 x5)) : Goal P (fun k => S (cont k)) := by
  obtain ⟨x0, x1, x2, x3, x4, x5, hq, e⟩ := h
  have : (fun k => S (cont k)) = fun k => cont k x0 x1 x2 x3 x4 x5 := funext fun k => e _
  rw [this]
  exact hc _ _ _ _ _ _ hq
theorem Goal.leaf6 {A0 A1 A2 A3 A4 A5 : Type} {Q : A0 → A1 → A2 → A3 → A4 → A5 → Prop} {x0 : A0} {x1 : A1} {x2 : A2} {x3 : A3} {x4 : A4} {x5 : A5} (h : Q x0 x1 x2 x3 x4 x5) : Goal (P6 Q) (fun k => k x0 x1 x2 x3 x4 x5) := ⟨_, _, _, _, _, _, h, fun _ => rfl⟩
theorem P6.mono {A0 A1 A2 A3 A4 A5 : Type} {Q Q' : A0 → A1 → A2 → A3 → A4 → A5 → Prop} {F : (A0 → A1 → A2 → A3 → A4 → A5 → Option FR) → Option FR} (h : P6 Q F) (hq : ∀ x0 x1 x2 x3 x4 x5, Q x0 x1 x2 x3 x4 x5 → Q' x0 x1 x2 x3 x4 x5) : P6 Q' F := by
  obtain ⟨x0, x1, x2, x3, x4, x5, h1, h2⟩ := h
  exact ⟨x0, x1, x2, x3, x4, x5, hq _ _ _ _ _ _ h1, h2⟩
def P7 {A0 A1 A2 A3 A4 A5 A6 : Type} (Q : A0 → A1 → A2 → A3 → A4 → A5 → A6 → Prop) (F : (A0 → A1 → A2 → A3 → A4 → A5 → A6 → Option FR) → Option FR) : Prop := ∃ x0 x1 x2 x3 x4 x5 x6, Q x0 x1 x2 x3 x4 x5 x6 ∧ ∀ k, F k = k x0 x1 x2 x3 x4 x5 x6
theorem Goal.bind7 {A0 A1 A2 A3 A4 A5 A6 : Type} {K : Type} {P : (K → Option FR) → Prop} {S : (A0 → A1 → A2 → A3 → A4 → A5 → A6 → Option FR) → Option FR} {Q : A0 → A1 → A2 → A3 → A4 → A5 → A6 → Prop} (h : P7 Q S) {cont : K → A0 → A1 → A2 → A3 → A4 → A5 → A6 → Option FR} (hc : ∀ x0 x1 x2 x3 x4 x5 x6, Q x0 x1 x2 x3 x4 x5 x6 → Goal P (fun k => cont k x0 x1 x2 x3 x4 x5 x6)) : Goal P (fun k => S (cont k)) := by
  obtain ⟨x0, x1, x2, x3, x4, x5, x6, hq, e⟩ := h
  have : (fun k => S (cont k)) = fun k => cont k x0 x1 x2 x3 x4 x5 x6 := funext fun k => e _
  rw [this]
  exact hc _ _ _ _ _ _ _ hq
theorem Goal.leaf7 {A0 A1 A2 A3 A4 A5 A6 : Type} {Q : A0 → A1 → A2 → A3 → A4 → A5 → A6 → Prop} {x0 : A0} {x1 : A1} {x2 : A2} {x3 : A3} {x4 : A4} {x5 : A5} {x6 : A6} (h : Q x0 x1 x2 x3 x4 x5 x6) : Goal (P7 Q) (fun k => k x0 x1 x2 x3 x4 x5 x6) := ⟨_, _, _, _, _, _, _, h, fun _ => rfl⟩
theorem P7.mono {A0 A1 A2 A3 A4 A5 A6 : Type} {Q Q' : A0 → A1 → A2 → A3 → A4 → A5 → A6 → Prop} {F : (A0 → A1 → A2 → A3 → A4 → A5 → A6 → Option FR) → Option FR} (h : P7 Q F) (hq : ∀ x0 x1 x2 x3 x4 x5 x6, Q x0 x1 x2 x3 x4 x5 x6 → Q' x0 x1 x2 x3 x4 x5 x6) : P7 Q' F := by
  obtain ⟨x0, x1, x2, x3, x4, x5, x6, h1, h2⟩ := h
  exact ⟨x0, x1, x2, x3, x4, x5, x6, hq _ _ _ _ _ _ _ h1, h2⟩
def P8 {A0 A1 A2 A3 A4 A5 A6 A7 : Type} (Q : A0 → A1 → A2 → A3 → A4 → A5 → A6 → A7 → Prop) (F : (A0 → A1 → A2 → A3 → A4 → A5 → A6 → A7 → Option FR) → Option FR) : Prop := ∃ x0 x1 x2 x3 x4 x5 x6 x7, Q x0 x1 x2 x3 x4 x5 x6 x7 ∧ ∀ k, F k = k x0 x1 x2 x3 x4 x5 x6 x7
theorem Goal.bind8 {A0 A1 A2 A3 A4 A5 A6 A7 : Type} {K : Type} {P : (K → Option FR) → Prop} {S : (A0 → A1 → A2 → A3 → A4 → A5 → A6 → A7 → Option FR) → Option FR} {Q : A0 → A1 → A2 → A3 → A4 → A5 → A6 → A7 → Prop} (h : P8 Q S) {cont : K → A0 → A1 → A2 → A3 → A4 → A5 → A6 → A7 → Option FR} (hc : ∀ x0 x1 x2 x3 x4 x5 x6 x7, Q x0 x1 x2 x3 x4 x5 x6 x7 → Goal P (fun k => cont k x0 x1 x2 x3 x4 x5 x6 x7)) : Goal P (fun k => S (cont k)) := by
  obtain ⟨x0, x1, x2, x3, x4, x5, x6, x7, hq, e⟩ := h
  have : (fun k => S (cont k)) = fun k => cont k x0 x1 x2 x3 x4 x5 x6 x7 := funext fun k => e _
  rw [this]
  exact hc _ _ _ _ _ _ _ _ hq
theorem Goal.leaf8 {A0 A1 A2 A3 A4 A5 A6 A7 : Type} {Q : A0 → A1 → A2 → A3 → A4 → A5 → A6 → A7 → Prop} {x0 : A0} {x1 : A1} {x2 : A2} {x3 : A3} {x4 : A4} {x5 : A5} {x6 : A6} {x7 : A7} (h : Q x0 x1 x2 x3 x4 x5 x6 x7) : Goal (P8 Q) (fun k => k x0 x1 x2 x3 x4 x5 x6 x7) := ⟨_, _, _, _, _, _, _, _, h, fun _ => rfl⟩
theorem P8.mono {A0 A1 A2 A3 A4 A5 A6 A7 : Type} {Q Q' : A0 → A1 → A2 → A3 → A4 → A5 → A6 → A7 → Prop} {F : (A0 → A1 → A2 → A3 → A4 → A5 → A6 → A7 → Option FR) → Option FR} (h : P8 Q F) (hq : ∀ x0 x1 x2 x3 x4 x5 x6 x7, Q x0 x1 x2 x3 x4 x5 x6 x7 → Q' x0 x1 x2 x3 x4 x5 x6 x7) : P8 Q' F := by
  obtain ⟨x0, x1, x2, x3, x4, x5, x6, x7, h1, h2⟩ := h
  exact ⟨x0, x1, x2, x3, x4, x5, x6, x7, hq _ _ _ _ _ _ _ _ h1, h2⟩
def P9 {A0 A1 A2 A3 A4 A5 A6 A7 A8 : Type} (Q : A0 → A1 → A2 → A3 → A4 → A5 → A6 → A7 → A8 → Prop) (F : (A0 → A1 → A2 → A3 → A4 → A5 → A6 → A7 → A8 → Option FR) → Option FR) : Prop := ∃ x0 x1 x2 x3 x4 x5 x6 x7 x8, Q x0 x1 x2 x3 x4 x5 x6 x7 x8 ∧ ∀ k, F k = k x0 x1 x2 x3 x4 x5 x6 x7 x8
theorem Goal.bind9 {A0 A1 A2 A3 A4 A5 A6 A7 A8 : Type} {K : Type} {P : (K → Option FR) → Prop} {S : (A0 → A1 → A2 → A3 → A4 → A5 → A6 → A7 → A8 → Option FR) → Option FR} {Q : A0 → A1 → A2 → A3 → A4 → A5 → A6 → A7 → A8 → Prop} (h : P9 Q S) {cont : K → A0 → A1 → A2 → A3 → A4 → A5 → A6 → A7 → A8 → Option FR} (hc : ∀ x0 x1 x2 x3 x4 x5 x6 x7 x8, Q x0 x1 x2 x3 x4 x5 x6 x7 x8 → Goal P (fun k => cont k x0 x1 x2 x3 x4 x5 x6 x7 x8)) : Goal P (fun k => S (cont k)) := by
  obtain ⟨x0, x1, x2, x3, x4, x5, x6, x7, x8, hq, e⟩ := h
  have : (fun k => S (cont k)) = fun k => cont k x0 x1 x2 x3 x4 x5 x6 x7 x8 := funext fun k => e _
  rw [this]
  exact hc _ _ _ _ _ _ _ _ _ hq
theorem Goal.leaf9 {A0 A1 A2 A3 A4 A5 A6 A7 A8 : Type} {Q : A0 → A1 → A2 → A3 → A4 → A5 → A6 → A7 → A8 → Prop} {x0 : A0} {x1 : A1} {x2 : A2} {x3 : A3} {x4 : A4} {x5 : A5} {x6 : A6} {x7 : A7} {x8 : A8} (h : Q x0 x1 x2 x3 x4 x5 x6 x7 x8) : Goal (P9 Q) (fun k => k x0 x1 x2 x3 x4 x5 x6 x7 x8) := ⟨_, _, _, _, _, _, _, _, _, h, fun _ => rfl⟩
theorem P9.mono {A0 A1 A2 A3 A4 A5 A6 A7 A8 : Type} {Q Q' : A0 → A1 → A2 → A3 → A4 → A5 → A6 → A7 → A8 → Prop} {F : (A0 → A1 → A2 → A3 → A4 → A5 → A6 → A7 → A8 → Option FR) → Option FR} (h : P9 Q F) (hq : ∀ x0 x1 x2 x3 x4 x5 x6 x7 x8, Q x0 x1 x2 x3 x4 x5 x6 x7 x8 → Q' x0 x1 x2 x3 x4 x5 x6 x7 x8) : P9 Q' F := by
  obtain ⟨x0, x1, x2, x3, x4, x5, x6, x7, x8, h1, h2⟩ := h
  exact ⟨x0, x1, x2, x3, x4, x5, x6, x7, x8, hq _ _ _ _ _ _ _ _ _ h1, h2⟩
def P10 {A0 A1 A2 A3 A4 A5 A6 A7 A8 A9 : Type} (Q : A0 → A1 → A2 → A3 → A4 → A5 → A6 → A7 → A8 → A9 → Prop) (F : (A0 → A1 → A2 → A3 → A4 → A5 → A6 → A7 → A8 → A9 → Option FR) → Option FR) : Prop := ∃ x0 x1 x2 x3 x4 x5 x6 x7 x8 x9, Q x0 x1 x2 x3 x4 x5 x6 x7 x8 x9 ∧ ∀ k, F k = k x0 x1 x2 x3 x4 x5 x6 x7 x8 x9
theorem Goal.bind10 {A0 A1 A2 A3 A4 A5 A6 A7 A8 A9 : Type} {K : Type} {P : (K → Option FR) → Prop} {S : (A0 → A1 → A2 → A3 → A4 → A5 → A6 → A7 → A8 → A9 → Option FR) → Option FR} {Q : A0 → A1 → A2 → A3 → A4 → A5 → A6 → A7 → A8 → A9 → Prop} (h : P10 Q S) {cont : K → A0 → A1 → A2 → A3 → A4 → A5 → A6 → A7 → A8 → A9 → Option FR} (hc : ∀ x0 x1 x2 x3 x4 x5 x6 x7 x8 x9, Q x0 x1 x2 x3 x4 x5 x6 x7 x8 x9 → Goal P (fun k => cont k x0 x1 x2 x3 x4 x5 x6 x7 x8 x9)) : Goal P (fun k => S (cont k)) := by
  obtain ⟨x0, x1, x2, x3, x4, x5, x6, x7, x8, x9, hq, e⟩ := h
  have : (fun k => S (cont k)) = fun k => cont k x0 x1 x2 x3 x4 x5 x6 x7 x8 x9 := funext fun k => e _
  rw [this]
  exact hc _ _ _ _ _ _ _ _ _ _ hq
theorem Goal.leaf10 {A0 A1 A2 A3 A4 A5 A6 A7 A8 A9 : Type} {Q : A0 → A1 → A2 → A3 → A4 → A5 → A6 → A7 → A8 → A9 → Prop} {x0 : A0} {x1 : A1} {x2 : A2} {x3 : A3} {x4 : A4} {x5 : A5} {x6 : A6} {x7 : A7} {x8 : A8} {x9 : A9} (h : Q x0 x1 x2 x3 x4 x5 x6 x7 x8 x9) : Goal (P10 Q) (fun k => k x0 x1 x2 x3 x4 x5 x6 x7 x8 x9) := ⟨_, _, _, _, _, _, _, _, _, _, h, fun _ => rfl⟩
theorem P10.mono {A0 A1 A2 A3 A4 A5 A6 A7 A8 A9 : Type} {Q Q' : A0 → A1 → A2 → A3 → A4 → A5 → A6 → A7 → A8 → A9 → Prop} {F : (A0 → A1 → A2 → A3 → A4 → A5 → A6 → A7 → A8 → A9 → Option FR) → Option FR} (h : P10 Q F) (hq : ∀ x0 x1 x2 x3 x4 x5 x6 x7 x8 x9, Q x0 x1 x2 x3 x4 x5 x6 x7 x8 x9 → Q' x0 x1 x2 x3 x4 x5 x6 x7 x8 x9) : P10 Q' F := by
  obtain ⟨x0, x1, x2, x3, x4, x5, x6, x7, x8, x9, h1, h2⟩ := h
  exact ⟨x0, x1, x2, x3, x4, x5, x6, x7, x8, x9, hq _ _ _ _ _ _ _ _ _ _ h1, h2⟩
def P11 {A0 A1 A2 A3 A4 A5 A6 A7 A8 A9 A10 : Type} (Q : A0 → A1 → A2 → A3 → A4 → A5 → A6 → A7 → A8 → A9 → A10 → Prop) (F : (A0 → A1 → A2 → A3 → A4 → A5 → A6 → A7 → A8 → A9 → A10 → Option FR) → Option FR) : Prop := ∃ x0 x1 x2 x3 x4 x5 x6 x7 x8 x9 x10, Q x0 x1 x2 x3 x4 x5 x6 x7 x8 x9 x10 ∧ ∀ k, F k = k x0 x1 x2 x3 x4 x5 x6 x7 x8 x9 x10
theorem Goal.bind11 {A0 A1 A2 A3 A4 A5 A6 A7 A8 A9 A10 : Type} {K : Type} {P : (K → Option FR) → Prop} {S : (A0 → A1 → A2 → A3 → A4 → A5 → A6 → A7 → A8 → A9 → A10 → Option FR) → Option FR} {Q : A0 → A1 → A2 → A3 → A4 → A5 → A6 → A7 → A8 → A9 → A10 → Prop} (h : P11 Q S) {cont : K → A0 → A1 → A2 → A3 → A4 → A5 → A6 → A7 → A8 → A9 → A10 → Option FR} (hc : ∀ x0 x1 x2 x3 x4 x5 x6 x7 x8 x9 x10, Q x0 x1 x2 x3 x4 x5 x6 x7 x8 x9 x10 → Goal P (fun k => cont k x0 x1 x2 x3 x4 x5 x6 x7 x8 x9 x10)) : Goal P (fun k => S (cont k)) := by
  obtain ⟨x0, x1, x2, x3, x4, x5, x6, x7, x8, x9, x10, hq, e⟩ := h
  have : (fun k => S (cont k)) = fun k => cont k x0 x1 x2 x3 x4 x5 x6 x7 x8 x9 x10 := funext fun k => e _
  rw [this]
  exact hc _ _ _ _ _ _ _ _ _ _ _ hq
theorem Goal.leaf11 {A0 A1 A2 A3 A4 A5 A6 A7 A8 A9 A10 : Type} {Q : A0 → A1 → A2 → A3 → A4 → A5 → A6 → A7 → A8 → A9 → A10 → Prop} {x0 : A0} {x1 : A1} {x2 : A2} {x3 : A3} {x4 : A4} {x5 : A5} {x6 : A6} {x7 : A7} {x8 : A8} {x9 : A9} {x10 : A10} (h : Q x0 x1 x2 x3 x4 x5 x6 x7 x8 x9 x10) : Goal (P11 Q) (fun k => k x0 x1 x2 x3 x4 x5 x6 x7 x8 x9 x10) := ⟨_, _, _, _, _, _, _, _, _, _, _, h, fun _ => rfl⟩
theorem P11.mono {A0 A1 A2 A3 A4 A5 A6 A7 A8 A9 A10 : Type} {Q Q' : A0 → A1 → A2 → A3 → A4 → A5 → A6 → A7 → A8 → A9 → A10 → Prop} {F : (A0 → A1 → A2 → A3 → A4 → A5 → A6 → A7 → A8 → A9 → A10 → Option FR) → Option FR} (h : P11 Q F) (hq : ∀ x0 x1 x2 x3 x4 x5 x6 x7 x8 x9 x10, Q x0 x1 x2 x3 x4 x5 x6 x7 x8 x9 x10 → Q' x0 x1 x2 x3 x4 x5 x6 x7 x8 x9 x10) : P11 Q' F := by
  obtain ⟨x0, x1, x2, x3, x4, x5, x6, x7, x8, x9, x10, h1, h2⟩ := h
  exact ⟨x0, x1, x2, x3, x4, x5, x6, x7, x8, x9, x10, hq _ _ _ _ _ _ _ _ _ _ _ h1, h2⟩
def P12 {A0 A1 A2 A3 A4 A5 A6 A7 A8 A9 A10 A11 : Type} (Q : A0 → A1 → A2 → A3 → A4 → A5 → A6 → A7 → A8 → A9 → A10 → A11 → Prop) (F : (A0 → A1 → A2 → A3 → A4 → A5 → A6 → A7 → A8 → A9 → A10 → A11 → Option FR) → Option FR) : Prop := ∃ x0 x1 x2 x3 x4 x5 x6 x7 x8 x9 x10 x11, Q x0 x1 x2 x3 x4 x5 x6 x7 x8 x9 x10 x11 ∧ ∀ k, F k = k x0 x1 x2 x3 x4 x5 x6 x7 x8 x9 x10 x11
theorem Goal.bind12 {A0 A1 A2 A3 A4 A5 A6 A7 A8 A9 A10 A11 : Type} {K : Type} {P : (K → Option FR) → Prop} {S : (A0 → A1 → A2 → A3 → A4 → A5 → A6 → A7 → A8 → A9 → A10 → A11 → Option FR) → Option FR} {Q : A0 → A1 → A2 → A3 → A4 → A5 → A6 → A7 → A8 → A9 → A10 → A11 → Prop} (h : P12 Q S) {cont : K → A0 → A1 → A2 → A3 → A4 → A5 → A6 → A7 → A8 → A9 → A10 → A11 → Option FR} (hc : ∀ x0 x1 x2 x3 x4 x5 x6 x7 x8 x9 x10 x11, Q x0 x1 x2 x3 x4 x5 x6 x7 x8 x9 x10 x11 → Goal P (fun k => cont k x0 x1 x2 x3 x4 x5 x6 x7 x8 x9 x10 x11)) : Goal P (fun k => S (cont k)) := by
  obtain ⟨x0, x1, x2, x3, x4, x5, x6, x7, x8, x9, x10, x11, hq, e⟩ := h
  have : (fun k => S (cont k)) = fun k => cont k x0 x1 x2 x3 x4 x5 x6 x7 x8 x9 x10 x11 := funext fun k => e _
  rw [this]
  exact hc _ _ _ _ _ _ _ _ _ _ _ _ hq
theorem Goal.leaf12 {A0 A1 A2 A3 A4 A5 A6 A7 A8 A9 A10 A11 : Type} {Q : A0 → A1 → A2 → A3 → A4 → A5 → A6 → A7 → A8 → A9 → A10 → A11 → Prop} {x0 : A0} {x1 : A1} {x2 : A2} {x3 : A3} {x4 : A4} {x5 : A5} {x6 : A6} {x7 : A7} {x8 : A8} {x9 : A9} {x10 : A10} {x11 : A11} (h : Q x0 x1 x2 x3 x4 x5 x6 x7 x8 x9 x10 x11) : Goal (P12 Q) (fun k => k x0 x1 x2 x3 x4 x5 x6 x7 x8 x9 x10 x11) := ⟨_, _, _, _, _, _, _, _, _, _, _, _, h, fun _ => rfl⟩
theorem P12.mono {A0 A1 A2 A3 A4 A5 A6 A7 A8 A9 A10 A11 : Type} {Q Q' : A0 → A1 → A2 → A3 → A4 → A5 → A6 → A7 → A8 → A9 → A10 → A11 → Prop} {F : (A0 → A1 → A2 → A3 → A4 → A5 → A6 → A7 → A8 → A9 → A10 → A11 → Option FR) → Option FR} (h : P12 Q F) (hq : ∀ x0 x1 x2 x3 x4 x5 x6 x7 x8 x9 x10 x11, Q x0 x1 x2 x3 x4 x5 x6 x7 x8 x9 x10 x11 → Q' x0 x1 x2 x3 x4 x5 x6 x7 x8 x9 x10 x11) : P12 Q' F := by
  obtain ⟨x0, x1, x2, x3, x4, x5, x6, x7, x8, x9, x10, x11, h1, h2⟩ := h
  exact ⟨x0, x1, x2, x3, x4, x5, x6, x7, x8, x9, x10, x11, hq _ _ _ _ _ _ _ _ _ _ _ _ h1, h2⟩
def P13 {A0 A1 A2 A3 A4 A5 A6 A7 A8 A9 A10 A11 A12 : Type} (Q : A0 → A1 → A2 → A3 → A4 → A5 → A6 → A7 → A8 → A9 → A10 → A11 → A12 → Prop) (F : (A0 → A1 → A2 → A3 → A4 → A5 → A6 → A7 → A8 → A9 → A10 → A11 → A12 → Option FR) → Option FR) : Prop := ∃ x0 x1 x2 x3 x4 x5 x6 x7 x8 x9 x10 x11 x12, Q x0 x1 x2 x3 x4 x5 x6 x7 x8 x9 x10 x11 x12 ∧ ∀ k, F k = k x0 x1 x2 x3 x4 x5 x6 x7 x8 x9 x10 x11 x12
theorem Goal.bind13 {A0 A1 A2 A3 A4 A5 A6 A7 A8 A9 A10 A11 A12 : Type} {K : Type} {P : (K → Option FR) → Prop} {S : (A0 → A1 → A2 → A3 → A4 → A5 → A6 → A7 → A8 → A9 → A10 → A11 → A12 → Option FR) → Option FR} {Q : A0 → A1 → A2 → A3 → A4 → A5 → A6 → A7 → A8 → A9 → A10 → A11 → A12 → Prop} (h : P13 Q S) {cont : K → A0 → A1 → A2 → A3 → A4 → A5 → A6 → A7 → A8 → A9 → A10 → A11 → A12 → Option FR} (hc : ∀ x0 x1 x2 x3 x4 x5 x6 x7 x8 x9 x10 x11 x12, Q x0 x1 x2 x3 x4 x5 x6 x7 x8 x9 x10 x11 x12 → Goal P (fun k => cont k x0 x1 x2 x3 x4 x5 x6 x7 x8 x9 x10 x11 x12)) : Goal P (fun k => S (cont k)) := by
  obtain ⟨x0, x1, x2, x3, x4, x5, x6, x7, x8, x9, x10, x11, x12, hq, e⟩ := h
  have : (fun k => S (cont k)) = fun k => cont k x0 x1 x2 x3 x4 x5 x6 x7 x8 x9 x10 x11 x12 := funext fun k => e _
  rw [this]
  exact hc _ _ _ _ _ _ _ _ _ _ _ _ _ hq
theorem Goal.leaf13 {A0 A1 A2 A3 A4 A5 A6 A7 A8 A9 A10 A11 A12 : Type} {Q : A0 → A1 → A2 → A3 → A4 → A5 → A6 → A7 → A8 → A9 → A10 → A11 → A12 → Prop} {x0 : A0} {x1 : A1} {x2 : A2} {x3 : A3} {x4 : A4} {x5 : A5} {x6 : A6} {x7 : A7} {x8 : A8} {x9 : A9} {x10 : A10} {x11 : A11} {x12 : A12} (h : Q x0 x1 x2 x3 x4 x5 x6 x7 x8 x9 x10 x11 x12) : Goal (P13 Q) (fun k => k x0 x1 x2 x3 x4 x5 x6 x7 x8 x9 x10 x11 x12) := ⟨_, _, _, _, _, _, _, _, _, _, _, _, _, h, fun _ => rfl⟩
def P14 {A0 A1 A2 A3 A4 A5 A6 A7 A8 A9 A10 A11 A12 A13 : Type} (Q : A0 → A1 → A2 → A3 → A4 → A5 → A6 → A7 → A8 → A9 → A10 → A11 → A12 → A13 → Prop) (F : (A0 → A1 → A2 → A3 → A4 → A5 → A6 → A7 → A8 → A9 → A10 → A11 → A12 → A13 → Option FR) → Option FR) : Prop := ∃ x0 x1 x2 x3 x4 x5 x6 x7 x8 x9 x10 x11 x12 x13, Q x0 x1 x2 x3 x4 x5 x6 x7 x8 x9 x10 x11 x12 x13 ∧ ∀ k, F k = k x0 x1 x2 x3 x4 x5 x6 x7 x8 x9 x10 x11 x12 x13
theorem Goal.bind14 {A0 A1 A2 A3 A4 A5 A6 A7 A8 A9 A10 A11 A12 A13 : Type} {K : Type} {P : (K → Option FR) → Prop} {S : (A0 → A1 → A2 → A3 → A4 → A5 → A6 → A7 → A8 → A9 → A10 → A11 → A12 → A13 → Option FR) → Option FR} {Q : A0 → A1 → A2 → A3 → A4 → A5 → A6 → A7 → A8 → A9 → A10 → A11 → A12 → A13 → Prop} (h : P14 Q S) {cont : K → A0 → A1 → A2 → A3 → A4 → A5 → A6 → A7 → A8 → A9 → A10 → A11 → A12 → A13 → Option FR} (hc : ∀ x0 x1 x2 x3 x4 x5 x6 x7 x8 x9 x10 x11 x12 x13, Q x0 x1 x2 x3 x4 x5 x6 x7 x8 x9 x10 x11 x12 x13 → Goal P (fun k => cont k x0 x1 x2 x3 x4 x5 x6 x7 x8 x9 x10 x11 x12 x13)) : Goal P (fun k => S (cont k)) := by
  obtain ⟨x0, x1, x2, x3, x4, x5, x6, x7, x8, x9, x10, x11, x12, x13, hq, e⟩ := h
  have : (fun k => S (cont k)) = fun k => cont k x0 x1 x2 x3 x4 x5 x6 x7 x8 x9 x10 x11 x12 x13 := funext fun k => e _
  rw [this]
  exact hc _ _ _ _ _ _ _ _ _ _ _ _ _ _ hq
theorem Goal.leaf14 {A0 A1 A2 A3 A4 A5 A6 A7 A8 A9 A10 A11 A12 A13 : Type} {Q : A0 → A1 → A2 → A3 → A4 → A5 → A6 → A7 → A8 → A9 → A10 → A11 → A12 → A13 → Prop} {x0 : A0} {x1 : A1} {x2 : A2} {x3 : A3} {x4 : A4} {x5 : A5} {x6 : A6} {x7 : A7} {x8 : A8} {x9 : A9} {x10 : A10} {x11 : A11} {x12 : A12} {x13 : A13} (h : Q x0 x1 x2 x3 x4 x5 x6 x7 x8 x9 x10 x11 x12 x13) : Goal (P14 Q) (fun k => k x0 x1 x2 x3 x4 x5 x6 x7 x8 x9 x10 x11 x12 x13) := ⟨_, _, _, _, _, _, _, _, _, _, _, _, _, _, h, fun _ => rfl⟩
theorem Goal.start {K : Type} {P : (K → Option FR) → Prop} {F : K → Option FR} (h : Goal P F) : P F := h
theorem Goal.cond {K : Type} {P : (K → Option FR) → Prop} {c : Bool} {F G : K → Option FR} (h1 : c = true → Goal P F) (h2 : c = false → Goal P G) : Goal P (fun k => bif c then F k else G k) := by
  cases c with
  | true => exact h1 rfl
  | false => exact h2 rfl
theorem Goal.req {K : Type} {P : (K → Option FR) → Prop} {b : Bool} {F : K → Option FR} (h : b = true) (h1 : Goal P F) : Goal P (fun k => req b (F k)) := by
  subst h; exact h1
theorem Goal.nz {K : Type} {P : (K → Option FR) → Prop} {b : Int} {F : K → Option FR} (h : b ≠ 0) (h1 : Goal P F) : Goal P (fun k => nz b (F k)) := by
  have : (fun k => Go.Den.nz b (F k)) = F := by funext k; unfold Go.Den.nz; rw [beq_eq_false_iff_ne.2 h]
  rw [this]; exact h1
theorem Goal.fn {K : Type} {P : (K → Option FR) → Prop} {F G : K → Option FR} (h : Goal P G) (e : ∀ k, F k = G k) : Goal P F := by
  rw [show F = G from funext e]; exact h
def RdI (B : Int) (t : Bool) (els : List (List RD)) (p : Int) : Prop := ∃ b : List UInt8, els = b.map eB ∧ b.length ≤ 2000 ∧ 0 ≤ p ∧ p ≤ B
theorem RdI.mono {B B' : Int} {t : Bool} {els : List (List RD)} {p : Int} (h : RdI B t els p) (hb : B ≤ B') : RdI B' t els p := by
  obtain ⟨b, h1, h2, h3, h4⟩ := h
  exact ⟨b, h1, h2, h3, by omega⟩
theorem xorI_nonneg {a b : Int} (ha : 0 ≤ a) (ha' : a < 4611686018427387904) (hb : 0 ≤ b) (hb' : b < 4611686018427387904) : 0 ≤ xorI .i64 a b := by
  unfold xorI
  have h1 : (BitVec.ofInt IntKind.i64.bits a ^^^ BitVec.ofInt IntKind.i64.bits b).toNat < 2 ^ 62 := by
    rw [BitVec.toNat_xor]
    refine Nat.xor_lt_two_pow ?_ ?_
    · rw [BitVec.toNat_ofInt]
      show (a % ((2 ^ 64 : Nat) : Int)).toNat < 2 ^ 62
      have : ((2 ^ 64 : Nat) : Int) = 18446744073709551616 := rfl
      rw [this]; omega
    · rw [BitVec.toNat_ofInt]
      show (b % ((2 ^ 64 : Nat) : Int)).toNat < 2 ^ 62
      have : ((2 ^ 64 : Nat) : Int) = 18446744073709551616 := rfl
      rw [this]; omega
  generalize (BitVec.ofInt IntKind.i64.bits a ^^^ BitVec.ofInt IntKind.i64.bits b).toNat = x at h1
  have : w64 (x : Int) = x := w64_id (by omega) (by omega)
  unfold w64 at this
  rw [this]
  omega
theorem pick_ret {B : Int} {t : Bool} {els : List (List RD)} {p : Int} (h : RdI B t els p) (n : Int) (hB : B ≤ 1000000000) :
    P4 (fun t' e' p' r => RdI (B + 1) t' e' p' ∧ (1 ≤ n → 0 ≤ r ∧ r < n)) (fun k => S_spec_l20Rd_pick t els p n k) := by
  obtain ⟨b, rfl, hb, h0, h1⟩ := h
  have hR : RdI (B + 1) t (b.map eB) (w64 (p + 1)) := ⟨b, rfl, hb, by rw [w64_id (by omega) (by omega)]; omega, by rw [w64_id (by omega) (by omega)]; omega⟩
  simp only [S_spec_l20Rd_pick, F_spec_l20Rd_pick, List.length_map]
  refine Goal.start ?_
  refine Goal.cond (fun hc => ?_) (fun hc => ?_)
  · have hc := of_decide_eq_true hc
    exact Goal.leaf4 ⟨hR, fun h => by omega⟩
  · have hc := of_decide_eq_false hc
    refine Goal.cond (fun hl => ?_) (fun hl => ?_)
    · exact Goal.leaf4 ⟨hR, fun h => by omega⟩
    · have hl : b.length ≠ 0 := by
        have := beq_eq_false_iff_ne.1 hl
        omega
      have e1 : w64 (w64 (p + 1) - 1) = p := by rw [w64_id (n := p + 1) (by omega) (by omega), w64_id (by omega) (by omega)]; omega
      rw [e1]
      have mod_ok : ∀ x : Int, 0 ≤ x → 0 ≤ x.tmod n ∧ x.tmod n < n := fun x hx => ⟨Int.tmod_nonneg _ hx, Int.tmod_lt_of_pos _ (by omega)⟩
      have atk : ∀ x : Int, 0 ≤ x → x < b.length → ∃ c : UInt8, ∀ k : Int → Option FR, at_iu8 (b.map eB) x k = k (c.toNat : Int) := by
        intro x hx hx'
        obtain ⟨i, rfl⟩ : ∃ i : Nat, x = (i : Int) := ⟨x.toNat, by omega⟩
        have hi : i < b.length := by omega
        exact ⟨b[i], fun k => by rw [at_iu8_map, List.getElem?_eq_getElem hi]; rfl⟩
      refine Goal.cond (fun hp => ?_) (fun hp => ?_)
      · have hp := of_decide_eq_true hp
        obtain ⟨c, hc2⟩ := atk p h0 hp
        have hcl := c.toNat_lt
        refine Goal.fn (G := fun k => Go.Den.nz n (k t (b.map eB) (w64 (p + 1)) ((w64 (c.toNat : Int)).tmod n))) (Goal.nz (by omega) (Goal.leaf4 ⟨hR, fun _ => mod_ok _ ?_⟩)) (fun k => hc2 _)
        rw [w64_id (by omega) (by omega)]; omega
      · refine Goal.nz (by omega) ?_
        have hL : (0 : Int) < b.length := by omega
        obtain ⟨c, hc2⟩ := atk (p.tmod (b.length : Int)) (Int.tmod_nonneg _ h0) (Int.tmod_lt_of_pos _ hL)
        have e2 : w64 (w64 (p * 7) + 3) = p * 7 + 3 := by rw [w64_id (n := p * 7) (by omega) (by omega), w64_id (by omega) (by omega)]
        rw [e2]
        obtain ⟨d, hd2⟩ := atk ((p * 7 + 3).tmod (b.length : Int)) (Int.tmod_nonneg _ (by omega)) (Int.tmod_lt_of_pos _ hL)
        simp only [hc2, hd2]
        refine Goal.nz (by omega) (Goal.nz (by omega) (Goal.nz (by omega) (Goal.leaf4 ⟨hR, fun _ => mod_ok _ ?_⟩)))
        have hcl := c.toNat_lt
        have hdl := d.toNat_lt
        have hq : 0 ≤ p.tdiv (b.length : Int) ∧ p.tdiv (b.length : Int) ≤ p := ⟨Int.tdiv_nonneg h0 (by omega), Int.tdiv_le_self _ h0⟩
        generalize p.tdiv (b.length : Int) = q at hq
        have i1 : w64 (c.toNat : Int) = c.toNat := w64_id (by omega) (by omega)
        have i2 : w64 (d.toNat : Int) = d.toNat := w64_id (by omega) (by omega)
        rw [i1, i2, w64_id (n := (c.toNat : Int) * 131) (by omega) (by omega), w64_id (n := (d.toNat : Int) * 1117) (by omega) (by omega), w64_id (n := p * 29) (by omega) (by omega), w64_id (n := q) (by omega) (by omega), w64_id (n := q * 53) (by omega) (by omega),
          w64_id (n := (c.toNat : Int) * 131 + (d.toNat : Int) * 1117) (by omega) (by omega), w64_id (n := (c.toNat : Int) * 131 + (d.toNat : Int) * 1117 + p * 29) (by omega) (by omega), w64_id (n := (c.toNat : Int) * 131 + (d.toNat : Int) * 1117 + p * 29 + q * 53) (by omega) (by omega)]
        have hs : 0 ≤ (c.toNat : Int) * 131 + (d.toNat : Int) * 1117 + p * 29 + q * 53 ∧ (c.toNat : Int) * 131 + (d.toNat : Int) * 1117 + p * 29 + q * 53 < 1000000000000 := by omega
        generalize (c.toNat : Int) * 131 + (d.toNat : Int) * 1117 + p * 29 + q * 53 = s at hs
        have hs2 : 0 ≤ s.tdiv 64 ∧ s.tdiv 64 ≤ s := ⟨Int.tdiv_nonneg hs.1 (by omega), Int.tdiv_le_self _ hs.1⟩
        rw [w64_id (n := s.tdiv 64) (by omega) (by omega)]
        exact xorI_nonneg hs.1 (by omega) hs2.1 (by omega)
theorem odd_ret {B : Int} {t : Bool} {els : List (List RD)} {p : Int} (h : RdI B t els p) (n : Int) (hB : B ≤ 1000000000) :
    P4 (fun t' e' p' r => RdI (B + 1) t' e' p') (fun k => S_spec_l20Rd_odd t els p n k) := by
  simp only [S_spec_l20Rd_odd, F_spec_l20Rd_odd]
  refine Goal.start ?_
  refine Goal.cond (fun hc => ?_) (fun hc => ?_)
  · refine Goal.bind4 (pick_ret h n hB) ?_
    rintro t e p r ⟨h1, _⟩
    refine Goal.cond (fun _ => Goal.leaf4 h1) (fun _ => Goal.leaf4 h1)
  · exact Goal.leaf4 (h.mono (by omega))
theorem open_ret (t : Bool) (b : List UInt8) : P3 (fun t' e' p' => RdI 0 t' e' p') (fun k => S_spec_l20Open t (b.map eB) k) := by
  simp only [S_spec_l20Open, F_spec_l20Open, List.length_map]
  refine Goal.start ?_
  refine Goal.cond (fun hc => ?_) (fun hc => ?_)
  · have hc := of_decide_eq_true hc
    refine Goal.req (by unfold slcOk; simp; omega) ?_
    refine Goal.cond (fun he => ?_) (fun he => ?_)
    · unfold eqN at he
      have := of_decide_eq_true he
      exact Goal.leaf3 ⟨b, rfl, by omega, by omega, by omega⟩
    · refine Goal.leaf3 ⟨b.take 2000, by rw [List.map_take], by simp; omega, by omega, by omega⟩
  · have hc := of_decide_eq_false hc
    exact Goal.leaf3 ⟨b, rfl, by omega, by omega, by omega⟩
end Go.Den
end
section
namespace Go.Den
open Go
set_option linter.unusedVariables false
set_option linter.unusedSimpArgs false
def isI (c : List RD) : Bool := match c with
  | [.lit (.int .i64 _)] => true
  | _ => false
def isS (c : List RD) : Bool := match c with
  | [.lit (.string s)] => Nat.ble s.size 50
  | _ => false
theorem part_i_ret {els : List (List RD)} {i : Nat} (h : i < els.length) (hw : els.all isI = true) : P1 (fun _ => True) (fun k => part_i els i 0 k) := by
  have hm := List.all_eq_true.1 hw els[i] (List.getElem_mem h)
  unfold isI at hm
  split at hm
  · rename_i n e
    refine ⟨n, trivial, fun k => ?_⟩
    unfold part_i part_
    rw [List.getElem?_eq_getElem h, e]
    rfl
  · cases hm
theorem part_s_ret {els : List (List RD)} {i : Nat} (h : i < els.length) (hw : els.all isS = true) : P1 (fun s => s.size ≤ 50) (fun k => part_s els i 0 k) := by
  have hm := List.all_eq_true.1 hw els[i] (List.getElem_mem h)
  unfold isS at hm
  split at hm
  · rename_i s e
    refine ⟨s, Nat.le_of_ble_eq_true hm, fun k => ?_⟩
    unfold part_s part_
    rw [List.getElem?_eq_getElem h, e]
    rfl
  · cases hm
theorem bs_size (l : List UInt8) : (bs l).size = l.length := by simp [bs, ByteArray.size]
theorem mk_size (l : List UInt8) : (⟨⟨l⟩⟩ : ByteArray).size = l.length := by simp [ByteArray.size]
theorem one_size (x : UInt8) : (⟨⟨[x]⟩⟩ : ByteArray).size = 1 := rfl
theorem catOk_of {a b : ByteArray} (ha : a.size ≤ 1000000) (hb : b.size ≤ 1000000) : catOk a b = true := by
  unfold catOk; rw [decide_eq_true_eq]; omega
theorem cat_size (a b : ByteArray) : (a ++ b).size = a.size + b.size := ByteArray.size_append
def eC (c : Int × Bool) : List RD := [iR c.1, .lit (.bool c.2)]
def ColI (N : Nat) (els : List (List RD)) : Prop := ∃ r : List (Int × Bool), els = r.map eC ∧ r.length ≤ N
def RowB (r : List Val) : Prop := r.length ≤ 100 ∧ ∀ v ∈ r, v.s.size ≤ 100
def RowI (N : Nat) (els : List (List RD)) : Prop := ∃ r : List Val, els = r.map eV ∧ r.length ≤ N ∧ ∀ v ∈ r, v.s.size ≤ 100
def MovI (N : Nat) (els : List (List RD)) : Prop := ∃ r : List Mv, els = r.map eMv ∧ r.length ≤ N ∧ ∀ m ∈ r, RowB m.row
theorem at_ib_map (l : List (Int × Bool)) (i : Nat) (k) : at_ib (l.map eC) (i : Int) k = l[i]?.bind fun v => k v.1 v.2 := by
  unfold at_ib; rw [at_map]; cases l[i]? <;> rfl
theorem ColI.add {N : Nat} {els : List (List RD)} (h : ColI N els) (c : Int) (b : Bool) : ColI (N + 1) (els ++ [[iR c, .lit (.bool b)]]) := by
  obtain ⟨r, rfl, hr⟩ := h
  exact ⟨r ++ [(c, b)], by simp [eC], by simp; omega⟩
theorem ColI.mono {N M : Nat} {els : List (List RD)} (h : ColI N els) (hm : N ≤ M) : ColI M els := by
  obtain ⟨r, h1, h2⟩ := h; exact ⟨r, h1, by omega⟩
theorem RowI.mono {N M : Nat} {els : List (List RD)} (h : RowI N els) (hm : N ≤ M) : RowI M els := by
  obtain ⟨r, h1, h2, h3⟩ := h; exact ⟨r, h1, by omega, h3⟩
theorem RowI.add {N : Nat} {els : List (List RD)} (h : RowI N els) (k n : Int) (s : ByteArray) (hs : s.size ≤ 100) : RowI (N + 1) (els ++ [[iR k, iR n, .lit (.string s)]]) := by
  obtain ⟨r, rfl, hr, hb⟩ := h
  refine ⟨r ++ [⟨k, n, s⟩], by simp [eV], by simp; omega, fun v hv => ?_⟩
  rcases List.mem_append.1 hv with hv | hv
  · exact hb v hv
  · simp at hv; subst hv; exact hs
theorem RowI.nil (N : Nat) : RowI N [] := ⟨[], rfl, by simp, by simp⟩
theorem RowI.len {N : Nat} {els : List (List RD)} (h : RowI N els) : els.length ≤ N := by
  obtain ⟨r, rfl, h, _⟩ := h; simpa using h
theorem ColI.len {N : Nat} {els : List (List RD)} (h : ColI N els) : els.length ≤ N := by
  obtain ⟨r, rfl, h⟩ := h; simpa using h
theorem cols_loop : ∀ (m n : Nat) {B : Int} {v4 : Int} {v5t : Bool} {v6 : Int} {v7t : Bool} {v7 : List (List RD)} {v8 : Int} {v9 : List (List RD)} {N : Nat}, v6 ≤ m → m < n → RdI B v7t v7 v8 → B + 2 * m ≤ 1000000000 → ColI N v9 → N + m ≤ 1000 →
    P6 (fun y0 y1 t e p c => y0 = v4 ∧ RdI (B + 2 * m) t e p ∧ ColI (N + m) c) (fun k => L_spec_l20Columns_0 S_spec_l20Rd_pick k v4 n v5t v6 v7t v7 v8 v9)
  | 0, n + 1, B, v4, v5t, v6, v7t, v7, v8, v9, N, h1, h2, h3, h4, h5, h6 => by
    simp only [L_spec_l20Columns_0, B_spec_l20Columns_0]
    rw [decide_eq_false (by omega)]
    exact Goal.leaf6 ⟨rfl, h3.mono (by omega), h5.mono (by omega)⟩
  | m + 1, n + 1, B, v4, v5t, v6, v7t, v7, v8, v9, N, h1, h2, h3, h4, h5, h6 => by
    simp only [L_spec_l20Columns_0, B_spec_l20Columns_0]
    refine Goal.start ?_
    refine Goal.cond (fun h0 => ?_) (fun h0 => Goal.leaf6 ⟨rfl, h3.mono (by omega), h5.mono (by omega)⟩)
    have h0 := of_decide_eq_true h0
    refine Goal.bind4 (pick_ret h3 _ (by omega)) ?_
    rintro t1 e1 p1 r1 ⟨g1, g2⟩
    refine Goal.req (by unfold idxOk; rw [decide_eq_true_eq]; omega) ?_
    refine Goal.bind1 (part_i_ret (by simp only [List.length_cons, List.length_nil]; omega) rfl) ?_
    intro x _
    refine Goal.bind4 (pick_ret g1 _ (by omega)) ?_
    rintro t2 e2 p2 r2 ⟨g3, g4⟩
    have hl := h5.len
    by_cases hw : v6 - 1 ≤ (m : Int)
    · have e6 : ∀ z : Int, -1000000 ≤ z → z ≤ 1000000 → w64 z = z := fun z h h' => w64_id (by omega) (by omega)
      refine Goal.cond (fun _ => ?_) (fun _ => ?_)
      · refine Goal.req (lenOk_of (by omega) (by decide)) ?_
        rw [e6 (v6 - 1) (by omega) (by omega)]
        refine (cols_loop m n hw (by omega) g3 (by omega) (h5.add _ _) (by omega)).mono ?_
        rintro y0 y1 t e p c ⟨a1, a2, a3⟩
        exact ⟨a1, a2.mono (by omega), a3.mono (by omega)⟩
      · refine Goal.req (lenOk_of (by omega) (by decide)) ?_
        rw [e6 (v6 - 1) (by omega) (by omega)]
        refine (cols_loop m n hw (by omega) g3 (by omega) (h5.add _ _) (by omega)).mono ?_
        rintro y0 y1 t e p c ⟨a1, a2, a3⟩
        exact ⟨a1, a2.mono (by omega), a3.mono (by omega)⟩
    · omega
theorem cols_ret {B : Int} {t : Bool} {els : List (List RD)} {p : Int} (h : RdI B t els p) (n : Int) (hB : B ≤ 100000000) :
    P5 (fun t' e' p' ct c => RdI (B + 20) t' e' p' ∧ ColI 10 c) (fun k => S_spec_l20Columns t els p n k) := by
  simp only [S_spec_l20Columns, F_spec_l20Columns, G_spec_l20Columns_0]
  refine Goal.start ?_
  refine Goal.bind4 (pick_ret h _ (by omega)) ?_
  rintro t1 e1 p1 r1 ⟨g1, g2⟩
  rw [w64_id (n := 1 + r1) (by omega) (by omega)]
  refine Goal.bind6 (cols_loop 3 fuel (by omega) (fuel_lt (by omega)) g1 (by omega) ⟨[], rfl, Nat.le_refl 0⟩ (by omega)) ?_
  rintro y0 y1 t2 e2 p2 c ⟨rfl, g3, g4⟩
  refine Goal.bind4 (odd_ret g3 _ (by omega)) ?_
  intro t3 e3 p3 r3 g5
  have hl := g4.len
  refine Goal.cond (fun _ => ?_) (fun _ => Goal.leaf5 ⟨g5.mono (by omega), g4.mono (by omega)⟩)
  refine Goal.bind4 (pick_ret g5 _ (by omega)) ?_
  rintro t4 e4 p4 r4 ⟨g6, g7⟩
  refine Goal.req (lenOk_of (by omega) (by decide)) ?_
  refine Goal.leaf5 ⟨g6.mono (by omega), ?_⟩
  have := ((g4.add (w64 (r4 - 1)) false).add 1 false).add 1 false
  simp only [List.append_assoc, List.cons_append, List.nil_append] at this
  exact this.mono (by omega)
theorem like_ret {B : Int} {t : Bool} {els : List (List RD)} {p : Int} (h : RdI B t els p) (a : Int) (b : Bool) (hB : B ≤ 100000000) :
    P6 (fun t' e' p' x y s => RdI (B + 2) t' e' p' ∧ s.size ≤ 50) (fun k => S_spec_l20Like t els p a b k) := by
  simp only [S_spec_l20Like, F_spec_l20Like]
  refine Goal.start ?_
  repeat' (first
    | (with_reducible refine Goal.cond (fun _ => ?_) (fun _ => ?_))
    | (with_reducible refine Goal.bind4 (pick_ret (by assumption) _ (by omega)) ?_; rintro _ _ _ _ ⟨_, _⟩)
    | (with_reducible refine Goal.bind4 (odd_ret (by assumption) _ (by omega)) ?_; intro _ _ _ _ _)
    | (with_reducible refine Goal.req (by unfold idxOk; rw [decide_eq_true_eq]; omega) ?_)
    | (with_reducible refine Goal.bind1 (part_i_ret (by simp only [List.length_cons, List.length_nil]; omega) rfl) ?_; intro _ _)
    | (with_reducible refine Goal.bind1 (part_s_ret (by simp only [List.length_cons, List.length_nil]; omega) (by decide)) ?_; intro _ _)
    | exact Goal.leaf6 ⟨RdI.mono (by assumption) (by omega), by first | assumption | decide⟩)
theorem val_loop : ∀ (m n : Nat) {B : Int} {a b c d f : Int} {s z : ByteArray} {v96 : Int} {v97t : Bool} {v97 : List (List RD)} {v98 : Int}, v96 ≤ m → m < n → RdI B v97t v97 v98 → B + m ≤ 1000000000 → z.size + m ≤ 1000 →
    P10 (fun y0 t e p y1 y2 y3 y4 y5 y6 => RdI (B + m) t e p ∧ y0 = a ∧ y6.size ≤ z.size + m) (fun k => L_spec_l20Value_0 S_spec_l20Rd_pick k a b c s d f n v96 v97t v97 v98 z)
  | 0, n + 1, B, a, b, c, d, f, s, z, v96, v97t, v97, v98, h1, h2, h3, h4, h5 => by
    simp only [L_spec_l20Value_0, B_spec_l20Value_0]
    rw [decide_eq_false (by omega)]
    exact Goal.leaf10 ⟨h3.mono (by omega), rfl, by omega⟩
  | m + 1, n + 1, B, a, b, c, d, f, s, z, v96, v97t, v97, v98, h1, h2, h3, h4, h5 => by
    simp only [L_spec_l20Value_0, B_spec_l20Value_0]
    refine Goal.start ?_
    refine Goal.cond (fun h0 => ?_) (fun h0 => Goal.leaf10 ⟨h3.mono (by omega), rfl, by omega⟩)
    have h0 := of_decide_eq_true h0
    refine Goal.bind4 (pick_ret h3 _ (by omega)) ?_
    rintro t1 e1 p1 r1 ⟨g1, g2⟩
    refine Goal.fn (G := fun k => req (catOk z (⟨⟨[UInt8.ofNat (wr .u8 (w64 (97 + r1))).toNat]⟩⟩)) (L_spec_l20Value_0 S_spec_l20Rd_pick k a b c s d f n (w64 (v96 - 1)) t1 e1 p1 (z ++ ⟨⟨[UInt8.ofNat (wr .u8 (w64 (97 + r1))).toNat]⟩⟩))) ?_ (fun k => rfl)
    refine Goal.req (catOk_of (by omega) (by rw [mk_size]; simp)) ?_
    rw [w64_id (n := v96 - 1) (by omega) (by omega)]
    refine (val_loop m n (by omega) (by omega) g1 (by omega) (by rw [cat_size, one_size]; omega)).mono ?_
    rintro y0 t e p y1 y2 y3 y4 y5 y6 ⟨a1, a2, a3⟩
    rw [cat_size, one_size] at a3
    exact ⟨a1.mono (by omega), a2, by omega⟩
theorem val_tail {B : Int} {t : Bool} {els : List (List RD)} {p : Int} (h : RdI B t els p) (hB : B ≤ 100000000) (n a b c d : Int) (s z : ByteArray) (hz : z.size ≤ 20) :
    P6 (fun t' e' p' x y s' => RdI (B + 3) t' e' p' ∧ s'.size ≤ 50) (fun k => G_spec_l20Value_j0 k n t els p a b s c d z) := by
  simp only [G_spec_l20Value_j0, B_spec_l20Value_j0]
  refine Goal.start ?_
  repeat' (first
    | (with_reducible refine Goal.cond (fun _ => ?_) (fun _ => ?_))
    | (with_reducible refine Goal.bind4 (pick_ret (by assumption) _ (by omega)) ?_; rintro _ _ _ _ ⟨_, _⟩)
    | (with_reducible refine Goal.bind4 (odd_ret (by assumption) _ (by omega)) ?_; intro _ _ _ _ _)
    | (with_reducible refine Goal.req (by unfold idxOk; rw [decide_eq_true_eq]; omega) ?_)
    | (with_reducible refine Goal.bind1 (part_i_ret (by simp only [List.length_cons, List.length_nil]; omega) rfl) ?_; intro _ _)
    | (with_reducible refine Goal.bind1 (part_s_ret (by simp only [List.length_cons, List.length_nil]; omega) (by decide)) ?_; intro _ _)
    | (with_reducible refine Goal.req (catOk_of (by omega) (by rw [bs_size]; decide)) ?_)
    | exact Goal.leaf6 ⟨RdI.mono (by assumption) (by omega), by first | omega | (rw [cat_size, bs_size]; simp only [List.length_cons, List.length_nil]; omega)⟩)
theorem val_ret {B : Int} {t : Bool} {els : List (List RD)} {p : Int} (h : RdI B t els p) (n : Int) (hB : B ≤ 10000000) :
    P6 (fun t' e' p' x y s' => RdI (B + 10) t' e' p' ∧ s'.size ≤ 50) (fun k => S_spec_l20Value t els p n k) := by
  simp only [S_spec_l20Value, F_spec_l20Value, G_spec_l20Value_0]
  refine Goal.start ?_
  repeat' (first
    | (with_reducible refine Goal.cond (fun _ => ?_) (fun _ => ?_))
    | (with_reducible refine Goal.bind4 (pick_ret (by assumption) _ (by omega)) ?_; rintro _ _ _ _ ⟨_, _⟩)
    | (with_reducible refine Goal.bind4 (odd_ret (by assumption) _ (by omega)) ?_; intro _ _ _ _ _)
    | (with_reducible refine Goal.req (by unfold idxOk; rw [decide_eq_true_eq]; omega) ?_)
    | (with_reducible refine Goal.bind1 (part_i_ret (by simp only [List.length_cons, List.length_nil]; omega) rfl) ?_; intro _ _)
    | (with_reducible refine Goal.bind1 (part_s_ret (by simp only [List.length_cons, List.length_nil]; omega) (by decide)) ?_; intro _ _)
    | (with_reducible refine Goal.bind10 (val_loop 3 fuel (by omega) (fuel_lt (by omega)) (by assumption) (by omega) (by rw [bs_size]; decide)) ?_; rintro _ _ _ _ _ _ _ _ _ _ ⟨_, rfl, hz⟩; rw [bs_size] at hz; simp only [List.length_nil] at hz)
    | (refine P6.mono (val_tail (by assumption) (by omega) _ _ _ _ _ _ _ (by first | omega | (rw [bs_size]; decide))) ?_; rintro _ _ _ _ _ _ ⟨h1, h2⟩; exact ⟨h1.mono (by omega), h2⟩))
theorem fit_loop {B : Int} {v1t : Bool} {cols : List (Int × Bool)} (hc : cols.length ≤ 20) : ∀ (m n i : Nat) {C : Int} {v2 : Int} {v3t : Bool} {t : Bool} {e : List (List RD)} {p : Int} {r : List (List RD)}, i + m = cols.length → m < n → RdI C t e p → C + 2 * m ≤ 10000000 → RowI i r →
    P6 (fun y0 y1 t e p r => y0 = v2 ∧ RdI (C + 2 * m) t e p ∧ RowI cols.length r) (fun k => L_spec_l20Fit_0 S_spec_l20Like k v1t (cols.map eC) v2 n v3t (i : Int) t e p r)
  | 0, n + 1, i, C, v2, v3t, t, e, p, r, h1, h2, h3, h4, h5 => by
    simp only [L_spec_l20Fit_0, B_spec_l20Fit_0, List.length_map]
    rw [decide_eq_false (by omega)]
    exact Goal.leaf6 ⟨rfl, h3.mono (by omega), h5.mono (by omega)⟩
  | m + 1, n + 1, i, C, v2, v3t, t, e, p, r, h1, h2, h3, h4, h5 => by
    have hi : i < cols.length := by omega
    simp only [L_spec_l20Fit_0, B_spec_l20Fit_0, List.length_map, at_ib_map]
    rw [decide_eq_true (by omega), List.getElem?_eq_getElem hi]
    simp only [cond_true, Option.bind_some]
    refine Goal.start ?_
    refine Goal.bind6 (like_ret h3 _ _ (by omega)) ?_
    rintro t1 e1 p1 x y s ⟨g1, g2⟩
    have hl := h5.len
    refine Goal.req (lenOk_of (by omega) (by decide)) ?_
    rw [w64_succ (by omega)]
    refine (fit_loop (B := B) hc m n (i + 1) (by omega) (by omega) g1 (by omega) (h5.add x y s (by omega))).mono ?_
    rintro y0 y1 t e p c ⟨a1, a2, a3⟩
    exact ⟨a1, a2.mono (by omega), a3⟩
theorem RowI.set {N : Nat} {els : List (List RD)} (h : RowI N els) {i : Nat} (hi : i < els.length) (k n : Int) (s : ByteArray) (hs : s.size ≤ 100) : ∃ c, els[i]? = some c ∧ c.length = 3 ∧ RowI N (els.set i (splice c 0 [iR k, iR n, .lit (.string s)])) := by
  obtain ⟨r, rfl, hr, hb⟩ := h
  have hi' : i < r.length := by simpa using hi
  refine ⟨eV r[i], by simp [List.getElem?_eq_getElem hi'], rfl, r.set i ⟨k, n, s⟩, ?_, by simpa using hr, fun v hv => ?_⟩
  · rw [List.map_set]; rfl
  · rcases List.mem_or_eq_of_mem_set hv with hv | hv
    · exact hb v hv
    · subst hv; exact hs
theorem put_get {R : Type} {els : List (List RD)} {i j n : Nat} {c : List RD} (h : els[i]? = some c) (hl : j + n ≤ c.length) (K : List RD → Option R) : put_ els i j n K = K c := by
  unfold put_
  rw [h]
  simp only
  rw [Nat.ble_eq_true_of_le hl]
theorem fit_ret {B : Int} {t : Bool} {els : List (List RD)} {p : Int} (h : RdI B t els p) (ct : Bool) {c : List (List RD)} (hc : ColI 20 c) (n : Int) (hB : B ≤ 1000000) :
    P5 (fun t' e' p' rt r => RdI (B + 100) t' e' p' ∧ RowI 30 r) (fun k => S_spec_l20Fit t els p ct c n k) := by
  obtain ⟨cols, rfl, hcl⟩ := hc
  simp only [S_spec_l20Fit, F_spec_l20Fit, G_spec_l20Fit_0]
  refine Goal.start ?_
  refine Goal.bind6 (fit_loop (B := B) hcl cols.length fuel 0 (by omega) (fuel_lt (by omega)) h (by omega) (RowI.nil 0)) ?_
  rintro y0 y1 t1 e1 p1 r ⟨rfl, g1, g2⟩
  have hl := g2.len
  refine Goal.bind4 (odd_ret g1 _ (by omega)) ?_
  intro t2 e2 p2 r2 g3
  refine Goal.cond (fun _ => ?_) (fun _ => Goal.leaf5 ⟨g3.mono (by omega), g2.mono (by omega)⟩)
  refine Goal.bind4 (pick_ret g3 _ (by omega)) ?_
  rintro t3 e3 p3 r3 ⟨g4, _⟩
  refine Goal.cond (fun _ => ?_) (fun _ => ?_)
  · refine Goal.req (lenOk_of (by omega) (by decide)) (Goal.leaf5 ⟨g4.mono (by omega), (g2.add 0 0 (bs []) (by rw [bs_size]; decide)).mono (by omega)⟩)
  · refine Goal.cond (fun _ => ?_) (fun _ => ?_)
    · refine Goal.cond (fun h0 => ?_) (fun _ => Goal.leaf5 ⟨g4.mono (by omega), g2.mono (by omega)⟩)
      have h0 := of_decide_eq_true h0
      refine Goal.bind4 (pick_ret g4 _ (by omega)) ?_
      rintro t4 e4 p4 r4 ⟨g5, g6⟩
      refine Goal.bind6 (val_ret g5 _ (by omega)) ?_
      rintro t5 e5 p5 x y s ⟨g7, g8⟩
      refine Goal.req (by unfold idxOk; rw [decide_eq_true_eq]; omega) ?_
      obtain ⟨c, e, hcl, hs⟩ := g2.set (i := r4.toNat) (by omega) x y s (by omega)
      refine Goal.fn (G := fun k => k t5 e5 p5 y1 (r.set r4.toNat (splice c 0 [iR x, iR y, .lit (.string s)]))) (Goal.leaf5 ⟨g7.mono (by omega), hs.mono (by omega)⟩) (fun k => put_get e (by omega) _)
    · refine Goal.bind6 (val_ret g4 _ (by omega)) ?_
      rintro t5 e5 p5 x1 y1 s1 ⟨g5, k1⟩
      refine Goal.bind6 (val_ret g5 _ (by omega)) ?_
      rintro t6 e6 p6 x2 y2 s2 ⟨g6, k2⟩
      refine Goal.bind6 (val_ret g6 _ (by omega)) ?_
      rintro t7 e7 p7 x3 y3 s3 ⟨g7, k3⟩
      refine Goal.req (lenOk_of (by omega) (by decide)) (Goal.leaf5 ⟨g7.mono (by omega), ?_⟩)
      have := ((g2.add x1 y1 s1 (by omega)).add x2 y2 s2 (by omega)).add x3 y3 s3 (by omega)
      simp only [List.append_assoc, List.cons_append, List.nil_append] at this
      exact this.mono (by omega)
theorem any_ret {B : Int} {t : Bool} {els : List (List RD)} {p : Int} (h : RdI B t els p) (n : Int) (hB : B ≤ 100000) :
    P5 (fun t' e' p' rt r => RdI (B + 120) t' e' p' ∧ RowI 30 r) (fun k => S_spec_l20Any t els p n k) := by
  simp only [S_spec_l20Any, F_spec_l20Any]
  refine Goal.start ?_
  refine Goal.bind5 (cols_ret h _ (by omega)) ?_
  rintro t1 e1 p1 ct c ⟨g1, g2⟩
  refine Goal.bind5 (fit_ret g1 _ (g2.mono (by omega)) _ (by omega)) ?_
  rintro t2 e2 p2 rt r ⟨g3, g4⟩
  exact Goal.leaf5 ⟨g3.mono (by omega), g4⟩
theorem small_ret {B : Int} {t : Bool} {els : List (List RD)} {p : Int} (h : RdI B t els p) (hB : B ≤ 100000) :
    P5 (fun t' e' p' rt r => RdI (B + 1) t' e' p' ∧ RowI 30 r) (fun k => S_spec_l20Small t els p k) := by
  simp only [S_spec_l20Small, F_spec_l20Small]
  refine Goal.start ?_
  refine Goal.bind4 (pick_ret h _ (by omega)) ?_
  rintro t1 e1 p1 r1 ⟨g1, g2⟩
  exact Goal.leaf5 ⟨g1, (RowI.nil 0).add 1 r1 (bs []) (by rw [bs_size]; decide) |>.mono (by omega)⟩
theorem move_ret {B : Int} {t : Bool} {els : List (List RD)} {p : Int} (h : RdI B t els p) (n : Int) (hB : B ≤ 50000) :
    P8 (fun t' e' p' a b c rt r => RdI (B + 200) t' e' p' ∧ RowI 30 r) (fun k => S_spec_l20Move t els p n k) := by
  simp only [S_spec_l20Move, F_spec_l20Move]
  refine Goal.start ?_
  have hn := RowI.nil 30
  repeat' (first
    | (with_reducible refine Goal.cond (fun _ => ?_) (fun _ => ?_))
    | (with_reducible refine Goal.bind4 (pick_ret (by assumption) _ (by omega)) ?_; rintro _ _ _ _ ⟨_, _⟩)
    | (with_reducible refine Goal.bind4 (odd_ret (by assumption) _ (by omega)) ?_; intro _ _ _ _ _)
    | (with_reducible refine Goal.req (by unfold idxOk; rw [decide_eq_true_eq]; omega) ?_)
    | (with_reducible refine Goal.bind1 (part_i_ret (by simp only [List.length_cons, List.length_nil]; omega) rfl) ?_; intro _ _)
    | (with_reducible refine Goal.bind1 (part_s_ret (by simp only [List.length_cons, List.length_nil]; omega) (by decide)) ?_; intro _ _)
    | (with_reducible refine Goal.bind5 (any_ret (by assumption) _ (by omega)) ?_; rintro _ _ _ _ _ ⟨_, _⟩)
    | (with_reducible refine Goal.bind5 (small_ret (by assumption) (by omega)) ?_; rintro _ _ _ _ _ ⟨_, _⟩)
    | exact Goal.leaf8 ⟨RdI.mono (by assumption) (by omega), by assumption⟩)
theorem MovI.add {N : Nat} {els : List (List RD)} (h : MovI N els) (a b c : Int) (t : Bool) {r : List (List RD)} (hr : RowI 30 r) : MovI (N + 1) (els ++ [[iR a, iR b, iR c, .sl t r]]) := by
  obtain ⟨l, rfl, hl, hb⟩ := h
  obtain ⟨row, rfl, h1, h2⟩ := hr
  refine ⟨l ++ [⟨a, b, c, t, row⟩], by simp [eMv], by simp; omega, fun m hm => ?_⟩
  rcases List.mem_append.1 hm with hm | hm
  · exact hb m hm
  · simp at hm; subst hm; exact ⟨by simp only; omega, h2⟩
theorem moves_loop : ∀ (m n : Nat) {B : Int} {v4 : Int} {v5t : Bool} {v6 : Int} {t : Bool} {e : List (List RD)} {p : Int} {r : List (List RD)} {N : Nat}, v6 ≤ m → m < n → RdI B t e p → B + 200 * m ≤ 50000 → MovI N r → N + m ≤ 1000 →
    P5 (fun y0 t e p c => RdI (B + 200 * m) t e p ∧ MovI (N + m) c) (fun k => L_spec_l20Moves_0 S_spec_l20Move k v4 n v5t v6 t e p r)
  | 0, n + 1, B, v4, v5t, v6, t, e, p, r, N, h1, h2, h3, h4, h5, h6 => by
    simp only [L_spec_l20Moves_0, B_spec_l20Moves_0]
    rw [decide_eq_false (by omega)]
    exact Goal.leaf5 ⟨h3.mono (by omega), h5⟩
  | m + 1, n + 1, B, v4, v5t, v6, t, e, p, r, N, h1, h2, h3, h4, h5, h6 => by
    simp only [L_spec_l20Moves_0, B_spec_l20Moves_0]
    have mono : ∀ {N M : Nat} {c}, MovI N c → N ≤ M → MovI M c := fun ⟨l, a, b, c⟩ h => ⟨l, a, by omega, c⟩
    refine Goal.start ?_
    refine Goal.cond (fun h0 => ?_) (fun h0 => Goal.leaf5 ⟨h3.mono (by omega), mono h5 (by omega)⟩)
    have h0 := of_decide_eq_true h0
    refine Goal.bind8 (move_ret h3 _ (by omega)) ?_
    rintro t1 e1 p1 a b c rt row ⟨g1, g2⟩
    have hl : r.length ≤ N := by obtain ⟨l, rfl, hl, _⟩ := h5; simpa using hl
    refine Goal.req (lenOk_of (by omega) (by decide)) ?_
    rw [w64_id (n := v6 - 1) (by omega) (by omega)]
    refine (moves_loop m n (by omega) (by omega) g1 (by omega) (h5.add a b c rt g2) (by omega)).mono ?_
    rintro y0 t e p c ⟨a1, a2⟩
    exact ⟨a1.mono (by omega), mono a2 (by omega)⟩
theorem moves_ret {B : Int} {t : Bool} {els : List (List RD)} {p : Int} (h : RdI B t els p) (n : Int) (hB : B ≤ 10000) :
    P5 (fun t' e' p' rt r => RdI (B + 10000) t' e' p' ∧ MovI 30 r) (fun k => S_spec_l20Moves t els p 24 n k) := by
  simp only [S_spec_l20Moves, F_spec_l20Moves, G_spec_l20Moves_0]
  refine Goal.start ?_
  refine Goal.bind4 (pick_ret h _ (by omega)) ?_
  rintro t1 e1 p1 r1 ⟨g1, g2⟩
  rw [show w64 (24 + 1) = 25 from rfl] at g2
  refine Goal.bind5 (moves_loop 24 fuel (by omega) (fuel_lt (by omega)) g1 (by omega) ⟨[], rfl, Nat.le_refl 0, by simp⟩ (by omega)) ?_
  rintro y0 t2 e2 p2 c ⟨g3, g4⟩
  obtain ⟨l, a, b, c⟩ := g4
  exact Goal.leaf5 ⟨g3.mono (by omega), l, a, by omega, c⟩
end Go.Den
end
section
namespace Go.Den
open Go
set_option linter.unusedVariables false
set_option linter.unusedSimpArgs false
def chkL {α : Type} (ok : α → Prop) (lt : α → α → Prop) : Option α → List α → Prop
  | _, [] => True
  | o, v :: r => ok v ∧ (∀ w, o = some w → lt w v) ∧ chkL ok lt (some v) r
theorem chk_iff {α : Type} (okB : α → Bool) (ltB : α → α → Bool) (l : List α) :
    allFrom (fun i => l[i]?.all fun v => okB v && (decide (i = 0) || l[i - 1]?.all fun w => ltB w v)) l.length 0 = true ↔ chkL (fun v => okB v = true) (fun w v => ltB w v = true) none l := by
  have key : ∀ (suf : List α) (pre : List α), allFrom (fun i => (pre ++ suf)[i]?.all fun v => okB v && (decide (i = 0) || (pre ++ suf)[i - 1]?.all fun w => ltB w v)) suf.length pre.length = true ↔ chkL (fun v => okB v = true) (fun w v => ltB w v = true) pre.getLast? suf := by
    intro suf
    induction suf with
    | nil => intro pre; simp [allFrom, chkL]
    | cons x r ih =>
      intro pre
      simp only [List.length_cons, allFrom, Bool.and_eq_true, chkL]
      have e : (pre ++ x :: r)[pre.length]? = some x := by simp
      rw [e, Option.all_some]
      have := ih (pre ++ [x])
      simp only [List.append_assoc, List.singleton_append, List.length_append, List.length_singleton, List.getLast?_append, List.getLast?_singleton, Option.some_or] at this
      rw [this, Bool.and_eq_true, and_assoc]
      refine and_congr Iff.rfl (and_congr ?_ Iff.rfl)
      by_cases hp : pre = []
      · subst hp; simp
      · have hl : 0 < pre.length := List.length_pos_iff.2 hp
        have e2 : (pre ++ x :: r)[pre.length - 1]? = pre.getLast? := by
          rw [List.getElem?_append_left (by omega), List.getLast?_eq_getElem?]
        rw [e2, decide_eq_false (by omega), Bool.false_or]
        cases hg : pre.getLast? with
        | none => simp
        | some w => simp
  have := key l []
  simpa using this
theorem chkL_mem {α : Type} {ok : α → Prop} {lt : α → α → Prop} : ∀ {l : List α} {o : Option α}, chkL ok lt o l → ∀ v ∈ l, ok v
  | x :: r, o, h, v, hv => by
    obtain ⟨h1, _, h3⟩ := h
    rcases List.mem_cons.1 hv with rfl | hv
    · exact h1
    · exact chkL_mem h3 v hv
section
variable {α : Type} {ok : α → Prop} (key : α → Int)
def putL (k : Int) (n : α) : Bool → List α → List α
  | done, [] => if done then [] else [n]
  | done, v :: r => (if decide (key v ≥ k) && !done then [n] else []) ++ ((if key v != k then [v] else []) ++ putL k n (done || decide (key v ≥ k)) r)
theorem chkL_gt {o : Option α} : ∀ {l : List α} {v : α}, chkL ok (fun w v => key w < key v) (some v) l → ∀ u ∈ l, key v < key u
  | x :: r, v, h, u, hu => by
    obtain ⟨_, h2, h3⟩ := h
    have := h2 v rfl
    rcases List.mem_cons.1 hu with rfl | hu
    · exact this
    · have := chkL_gt (o := o) h3 u hu; omega
theorem putL_done (k : Int) (n : α) : ∀ {l : List α}, (∀ u ∈ l, k < key u) → putL key k n true l = l
  | [], _ => rfl
  | v :: r, h => by
    have h1 := h v (by simp)
    simp only [putL, Bool.not_true, Bool.and_false, Bool.true_or]
    have : (key v != k) = true := by simp; omega
    rw [this, putL_done k n (fun u hu => h u (by simp [hu]))]
    simp
theorem putL_chk {k : Int} {n : α} (hn : ok n) (hk : key n = k) : ∀ {l : List α} {o : Option α}, chkL ok (fun w v => key w < key v) o l → (∀ w, o = some w → key w < k) → chkL ok (fun w v => key w < key v) o (putL key k n false l)
  | [], o, h, ho => by
    simp only [putL]
    exact ⟨hn, fun w hw => (by have := ho w hw; show key w < key n; omega), trivial⟩
  | v :: r, o, h, ho => by
    obtain ⟨h1, h2, h3⟩ := h
    have hgt := chkL_gt key (o := o) h3
    simp only [putL, Bool.not_false, Bool.and_true, Bool.false_or]
    by_cases hv : key v ≥ k
    · rw [decide_eq_true hv, putL_done key k n (fun u hu => by have := hgt u hu; omega)]
      by_cases he : key v = k
      · have : (key v != k) = false := by simp [he]
        rw [this]
        refine ⟨hn, fun w hw => (by have := ho w hw; show key w < key n; omega), ?_⟩
        simp only [Bool.false_eq_true, if_false, List.nil_append]
        cases r with
        | nil => trivial
        | cons u r =>
          obtain ⟨g1, g2, g3⟩ := h3
          exact ⟨g1, fun w hw => by cases hw; have := g2 v rfl; omega, g3⟩
      · have : (key v != k) = true := by simp [he]
        rw [this]
        exact ⟨hn, fun w hw => (by have := ho w hw; show key w < key n; omega), h1, fun w hw => by cases hw; omega, h3⟩
    · have : (key v != k) = true := by simp; omega
      rw [decide_eq_false hv, this]
      exact ⟨h1, h2, putL_chk hn hk h3 (fun w hw => by cases hw; omega)⟩
theorem putL_mem {k : Int} {n : α} : ∀ {l : List α} {d : Bool} {v : α}, v ∈ putL key k n d l → v = n ∨ v ∈ l
  | [], d, v, h => by
    simp only [putL] at h
    split at h
    · cases h
    · simp at h; exact .inl h
  | x :: r, d, v, h => by
    simp only [putL, List.mem_append] at h
    rcases h with h | h | h
    · split at h
      · simp at h; exact .inl h
      · cases h
    · split at h
      · simp at h; subst h; exact .inr (by simp)
      · cases h
    · rcases putL_mem h with h | h
      · exact .inl h
      · exact .inr (by simp [h])
theorem putL_len {k : Int} {n : α} : ∀ {l : List α} {d : Bool}, (putL key k n d l).length ≤ l.length + (if d then 0 else 1)
  | [], d => by simp only [putL]; cases d <;> simp
  | x :: r, d => by
    have := putL_len (k := k) (n := n) (l := r) (d := d || decide (key x ≥ k))
    simp only [putL, List.length_append, List.length_cons]
    cases d <;> cases hd : decide (key x ≥ k) <;> rw [hd] at this <;> cases hx : (key x != k) <;> simp at this ⊢ <;> omega
end
theorem reads_chk (l : List Int) : readsOk l = true ↔ chkL (fun n => inB n 0 4 = true) (fun w v => w < v) none l := by
  unfold readsOk stepR
  rw [chk_iff (fun n => inB n 0 4) (fun m n => !decide (m ≥ n))]
  have : (fun (w v : Int) => (!decide (w ≥ v)) = true) = fun w v => w < v := by
    funext w v; rw [eq_iff_iff]; simp
  rw [this]
def wrOk (w : Wr) : Bool := inB w.key 0 4 && (rowOk w.row && !(w.gone && decide ((w.row.length : Int) > 0)))
theorem writes_chk (l : List Wr) : writesOk l = true ↔ chkL (fun w => wrOk w = true) (fun w v => w.key < v.key) none l := by
  unfold writesOk
  have e : stepW l = fun i => l[i]?.all fun v => wrOk v && (decide (i = 0) || l[i - 1]?.all fun w => !decide (w.key ≥ v.key)) := by
    funext i
    unfold stepW wrOk
    congr 1
    funext w
    generalize inB w.key 0 4 = b1; generalize rowOk w.row = b2; generalize (w.gone && decide ((w.row.length : Int) > 0)) = b3
    cases b1 <;> cases b2 <;> cases b3 <;> rfl
  rw [e, chk_iff wrOk (fun m n => !decide (m.key ≥ n.key))]
  have : (fun (w v : Wr) => (!decide (w.key ≥ v.key)) = true) = fun w v => w.key < v.key := by
    funext w v; rw [eq_iff_iff]; simp
  rw [this]
def noteL (l : List Int) (k : Int) : List Int := putL (fun n => n) k k false l
theorem note_ok {l : List Int} {k : Int} (h : readsOk l = true) (hk : inB k 0 4 = true) : readsOk (noteL l k) = true :=
  (reads_chk _).2 (putL_chk (fun n => n) (ok := fun n => inB n 0 4 = true) hk rfl ((reads_chk l).1 h) (fun w hw => by cases hw))
def putW (l : List Wr) (w : Wr) : List Wr := putL (fun w => w.key) w.key w false l
theorem putW_ok {l : List Wr} {w : Wr} (h : writesOk l = true) (hw : wrOk w = true) : writesOk (putW l w) = true :=
  (writes_chk _).2 (putL_chk (fun w => w.key) (ok := fun w => wrOk w = true) hw rfl ((writes_chk l).1 h) (fun w hw => by cases hw))
theorem drop_step {α β : Type} (f : α → β) {l : List α} {i : Nat} (hi : i < l.length) (acc : List β) : acc ++ [f l[i]] ++ (l.drop (i + 1)).map f = acc ++ (l.drop i).map f := by
  rw [List.drop_eq_getElem_cons hi, List.map_cons, List.append_assoc]; rfl
def clV (v : Ver) : Ver := { v with t := false }
def clW (w : Wr) : Wr := { w with t := false }
def clT (v : Tx) : Tx := { v with rt := false, wt := v.wr.isEmpty, wr := v.wr.map clW }
theorem copy_loop {vt : Bool} {l : List Ver} (hl : l.length ≤ 1000) (hr : ∀ v ∈ l, v.row.length ≤ 1073741824) : ∀ (m n i : Nat) {t : Bool} {acc : List Ver}, i + m = l.length → m < n → acc.length = i →
    P2 (fun t' r => r = (acc ++ (l.drop i).map clV).map eVer) (fun k => L_spec_l13Copy_0 S_spec_l3Own k vt (l.map eVer) n t (i : Int) (acc.map eVer))
  | 0, n + 1, i, t, acc, h1, h2, h3 => by
    simp only [L_spec_l13Copy_0, B_spec_l13Copy_0, List.length_map]
    rw [decide_eq_false (by omega), List.drop_eq_nil_of_le (by omega)]
    exact Goal.leaf2 (by simp)
  | m + 1, n + 1, i, t, acc, h1, h2, h3 => by
    have hi : i < l.length := by omega
    simp only [L_spec_l13Copy_0, B_spec_l13Copy_0, List.length_map, at_iiil_map]
    rw [decide_eq_true (by omega), List.getElem?_eq_getElem hi]
    simp only [cond_true, Option.bind_some, spec_l3Own_eq _ _ (hr _ (get_mem hi))]
    rw [w64_succ (by omega)]
    refine Goal.start ?_
    refine Goal.req (lenOk_of (by omega) (by decide)) ?_
    have := copy_loop (vt := vt) hl hr m n (i + 1) (t := false) (acc := acc ++ [clV l[i]]) (by omega) (by omega) (by simp [h3])
    rw [drop_step clV hi, show (acc ++ [clV l[i]]).map eVer = acc.map eVer ++ [[iR l[i].key, iR l[i].born, iR l[i].died, .sl false (l[i].row.map eV)]] from by simp [eVer, clV]] at this
    exact this
theorem copyV_ret (t : Bool) {l : List Ver} (hl : l.length ≤ 1000) (hr : ∀ v ∈ l, v.row.length ≤ 1073741824) : P2 (fun t' r => r = (l.map clV).map eVer) (fun k => S_spec_l13Copy t (l.map eVer) k) := by
  simp only [S_spec_l13Copy, F_spec_l13Copy, G_spec_l13Copy_0]
  have := copy_loop (vt := t) hl hr l.length fuel 0 (t := true) (acc := []) (by omega) (fuel_lt (by omega)) rfl
  simpa using this
theorem writes_loop {vt : Bool} {l : List Wr} (hl : l.length ≤ 1000) (hr : ∀ v ∈ l, v.row.length ≤ 1073741824) : ∀ (m n i : Nat) {acc : List Wr}, i + m = l.length → m < n → acc.length = i →
    P2 (fun t' r => t' = l.isEmpty ∧ r = (acc ++ (l.drop i).map clW).map eWr) (fun k => L_spec_l14Writes_0 S_spec_l3Own k vt (l.map eWr) n (decide (i = 0)) (i : Int) (acc.map eWr))
  | 0, n + 1, i, acc, h1, h2, h3 => by
    simp only [L_spec_l14Writes_0, B_spec_l14Writes_0, List.length_map]
    rw [decide_eq_false (by omega), List.drop_eq_nil_of_le (by omega)]
    refine Goal.leaf2 ⟨?_, by simp⟩
    cases l with
    | nil => simp at h1; subst h1; rfl
    | cons x r => simp at h1; rw [decide_eq_false (by omega)]; rfl
  | m + 1, n + 1, i, acc, h1, h2, h3 => by
    have hi : i < l.length := by omega
    simp only [L_spec_l14Writes_0, B_spec_l14Writes_0, List.length_map, at_ilb_map]
    rw [decide_eq_true (by omega), List.getElem?_eq_getElem hi]
    simp only [cond_true, Option.bind_some, spec_l3Own_eq _ _ (hr _ (get_mem hi))]
    rw [w64_succ (by omega)]
    refine Goal.start ?_
    refine Goal.req (lenOk_of (by omega) (by decide)) ?_
    have := writes_loop (vt := vt) hl hr m n (i + 1) (acc := acc ++ [clW l[i]]) (by omega) (by omega) (by simp [h3])
    rw [drop_step clW hi, show (acc ++ [clW l[i]]).map eWr = acc.map eWr ++ [[iR l[i].key, .sl false (l[i].row.map eV), .lit (.bool l[i].gone)]] from by simp [eWr, clW], show decide (i + 1 = 0) = false from by simp] at this
    exact this
theorem copyW_ret (t : Bool) {l : List Wr} (hl : l.length ≤ 1000) (hr : ∀ v ∈ l, v.row.length ≤ 1073741824) : P2 (fun t' r => t' = l.isEmpty ∧ r = (l.map clW).map eWr) (fun k => S_spec_l14Writes t (l.map eWr) k) := by
  simp only [S_spec_l14Writes, F_spec_l14Writes, G_spec_l14Writes_0]
  have := writes_loop (vt := t) hl hr l.length fuel 0 (acc := []) (by omega) (fuel_lt (by omega)) rfl
  simpa using this
theorem own_ret (a b c : Int) (rt : Bool) (rd : List (List RD)) (wt : Bool) {l : List Wr} (hl : l.length ≤ 1000000) (key : Int) : P1 (fun _ => True) (fun k => S_spec_l14Own a b c rt rd wt (l.map eWr) key k) := by
  simp only [S_spec_l14Own, F_spec_l14Own, G_spec_l14Own_0]
  have : ∀ (m n i : Nat), i + m = l.length → m < n → P1 (fun (_ : Int) => True) (fun k => L_spec_l14Own_0 (fun y => k y) (k (-1)) key a b c rt rd wt (l.map eWr) n (i : Int)) := by
    intro m
    induction m with
    | zero =>
      intro n i h1 h2
      obtain ⟨n, rfl⟩ : ∃ n', n = n' + 1 := ⟨n - 1, by omega⟩
      simp only [L_spec_l14Own_0, B_spec_l14Own_0, List.length_map]
      rw [decide_eq_false (by omega)]
      exact ⟨-1, trivial, fun _ => rfl⟩
    | succ m ih =>
      intro n i h1 h2
      obtain ⟨n, rfl⟩ : ∃ n', n = n' + 1 := ⟨n - 1, by omega⟩
      have hi : i < l.length := by omega
      simp only [L_spec_l14Own_0, B_spec_l14Own_0, List.length_map, at_ilb_map]
      rw [decide_eq_true (by omega), List.getElem?_eq_getElem hi]
      simp only [cond_true, Option.bind_some]
      rw [w64_succ (by omega)]
      exact Goal.cond (fun _ => Goal.leaf1 trivial) (fun _ => ih n (i + 1) (by omega) (by omega))
  have := this l.length fuel 0 (by omega) (fuel_lt (by omega))
  simpa using this
end Go.Den
end
section
namespace Go.Den
open Go
set_option linter.unusedVariables false
set_option linter.unusedSimpArgs false
structure TxB (v : Tx) : Prop where
  rd : v.rd.length ≤ 1000
  wr : v.wr.length ≤ 1000
  row : ∀ w ∈ v.wr, RB w.row
theorem TxB.tb {v : Tx} (h : TxB v) : TB v := ⟨Nat.le_trans h.rd (by decide), Nat.le_trans h.wr (by decide), h.row⟩
theorem eI_width (v : Int) : (eI v).length = 1 := rfl
theorem eI_lit (v : Int) : (eI v).all isLit = true := rfl
theorem copyT_loop {vt xt vt' : Bool} {l0 l1 l2 l3 : List (List RD)} {c c' : Int} {t6 t8 t11 : Bool} {l : List Tx} (hl : l.length ≤ 1000) (hx : ∀ v ∈ l, TxB v) : ∀ (m n i : Nat) {t : Bool} {acc : List Tx}, i + m = l.length → m < n → acc.length = i →
    P10 (fun y0 y1 y2 y3 y4 y5 y6 y7 y8 y9 => y5 = t11 ∧ y6 = c' ∧ y8 = l3 ∧ y9 = (acc ++ (l.drop i).map clT).map eTx) (fun k => L_spec_l14Copy_0 S_spec_l14Writes k vt l0 c xt (l.map eTx) t6 0 t8 l1 l2 t11 c' l3 n (i : Int) t (acc.map eTx))
  | 0, n + 1, i, t, acc, h1, h2, h3 => by
    simp only [L_spec_l14Copy_0, B_spec_l14Copy_0, List.length_map]
    rw [decide_eq_false (by omega), List.drop_eq_nil_of_le (by omega)]
    exact Goal.leaf10 ⟨rfl, rfl, rfl, by simp⟩
  | m + 1, n + 1, i, t, acc, h1, h2, h3 => by
    have hi : i < l.length := by omega
    have hb := hx _ (get_mem hi)
    simp only [L_spec_l14Copy_0, B_spec_l14Copy_0, List.length_map, at_iiill_map]
    rw [decide_eq_true (by omega), List.getElem?_eq_getElem hi]
    simp only [cond_true, Option.bind_some]
    rw [w64_succ (by omega)]
    refine Goal.start ?_
    refine Goal.req (widthOk_map eI 1 _ eI_width) ?_
    refine Goal.req (allLit_map eI _ eI_lit) ?_
    refine Goal.req (lenOk_of (by have := hb.rd; omega) (by decide)) ?_
    refine Goal.bind2 (copyW_ret _ hb.wr (fun w hw => (hb.row w hw).1)) ?_
    rintro t2 r ⟨rfl, rfl⟩
    refine Goal.req (lenOk_of (by omega) (by decide)) ?_
    have := copyT_loop (vt := vt) (xt := xt) (vt' := vt') (l0 := l0) (l1 := l1) (l2 := l2) (l3 := l3) (c := c) (c' := c') (t6 := t6) (t8 := t8) (t11 := t11) hl hx m n (i + 1) (t := false) (acc := acc ++ [clT l[i]]) (by omega) (by omega) (by simp [h3])
    rw [drop_step clT hi, show (acc ++ [clT l[i]]).map eTx = acc.map eTx ++ [[iR l[i].st, iR l[i].bg, iR l[i].en, .sl false ([] ++ l[i].rd.map eI), .sl l[i].wr.isEmpty ((l[i].wr.map clW).map eWr)]] from by simp [eTx, clT]] at this
    exact this
theorem copyH_ret (t t' : Bool) {l : List Ver} (hl : l.length ≤ 1000) (hr : ∀ v ∈ l, v.row.length ≤ 1073741824) (c : Int) {x : List Tx} (hxl : x.length ≤ 1000) (hx : ∀ v ∈ x, TxB v) :
    P5 (fun y0 y1 y2 y3 y4 => y1 = (l.map clV).map eVer ∧ y2 = c ∧ y4 = (x.map clT).map eTx) (fun k => S_spec_l14Copy t (l.map eVer) c t' (x.map eTx) k) := by
  simp only [S_spec_l14Copy, F_spec_l14Copy, G_spec_l14Copy_0]
  refine Goal.start ?_
  refine Goal.bind2 (copyV_ret t hl hr) ?_
  rintro t1 r rfl
  refine Goal.bind10 (copyT_loop (vt' := t) hxl hx x.length fuel 0 (acc := []) (by omega) (fuel_lt (by omega)) rfl) ?_
  rintro y0 y1 y2 y3 y4 y5 y6 y7 y8 y9 ⟨rfl, rfl, rfl, rfl⟩
  exact Goal.leaf5 ⟨rfl, rfl, by simp⟩
theorem note_loop {vt : Bool} {l : List Int} (hl : l.length ≤ 1000) (key : Int) : ∀ (m n i : Nat) {t d : Bool} {acc : List Int}, i + m = l.length → m < n → (acc.length ≤ i + 1 ∧ (d = false → acc.length ≤ i)) →
    P4 (fun y0 y1 y2 y3 => y0 = key ∧ (∃ acc', y3 = acc'.map eI ∧ acc'.length ≤ 1002 ∧ (bif y2 then acc' else acc' ++ [key]) = acc ++ putL (fun n => n) key key d (l.drop i))) (fun k => L_spec_l14Note_0 k vt (l.map eI) key n t d (i : Int) (acc.map eI))
  | 0, n + 1, i, t, d, acc, h1, h2, h3 => by
    simp only [L_spec_l14Note_0, B_spec_l14Note_0, List.length_map]
    rw [decide_eq_false (by omega), List.drop_eq_nil_of_le (by omega)]
    refine Goal.leaf4 ⟨rfl, acc, rfl, by omega, ?_⟩
    cases d <;> simp [putL]
  | m + 1, n + 1, i, t, d, acc, h1, h2, h3 => by
    have hi : i < l.length := by omega
    simp only [L_spec_l14Note_0, B_spec_l14Note_0, List.length_map, at_i_map]
    rw [decide_eq_true (by omega), List.getElem?_eq_getElem hi, w64_succ (by omega)]
    simp only [cond_true, Option.bind_some]
    rw [List.drop_eq_getElem_cons hi]
    simp only [putL]
    have lk : ∀ x, x ≤ 2000 → lenOk x 8 = true := fun x h => lenOk_of (by omega) (by decide)
    refine Goal.start ?_
    refine Goal.cond (fun hge => ?_) (fun hge => ?_)
    · refine Goal.cond (fun hd => ?_) (fun hd => ?_)
      · subst hd
        refine Goal.cond (fun hne => ?_) (fun hne => ?_)
        · refine Goal.req (lk _ (by omega)) ?_
          have := note_loop (vt := vt) hl key m n (i + 1) (t := false) (d := true) (acc := acc ++ [l[i]]) (by omega) (by omega) ⟨by simp; omega, fun h => by cases h⟩
          rw [hge, hne]
          simpa [eI, Goal] using this
        · have := note_loop (vt := vt) hl key m n (i + 1) (t := t) (d := true) (acc := acc) (by omega) (by omega) ⟨by omega, fun h => by cases h⟩
          rw [hge, hne]
          simpa [Goal] using this
      · subst hd
        refine Goal.req (lk _ (by omega)) ?_
        refine Goal.cond (fun hne => ?_) (fun hne => ?_)
        · refine Goal.req (lk _ (by simp; omega)) ?_
          have := note_loop (vt := vt) hl key m n (i + 1) (t := false) (d := true) (acc := acc ++ [key, l[i]]) (by omega) (by omega) ⟨by have := h3.2 rfl; simp; omega, fun h => by cases h⟩
          rw [hge, hne]
          simpa [eI, Goal] using this
        · have := note_loop (vt := vt) hl key m n (i + 1) (t := false) (d := true) (acc := acc ++ [key]) (by omega) (by omega) ⟨by have := h3.2 rfl; simp; omega, fun h => by cases h⟩
          rw [hge, hne]
          simpa [eI, Goal] using this
    · refine Goal.cond (fun hne => ?_) (fun hne => ?_)
      · refine Goal.req (lk _ (by omega)) ?_
        have := note_loop (vt := vt) hl key m n (i + 1) (t := false) (d := d) (acc := acc ++ [l[i]]) (by omega) (by omega) ⟨by simp; omega, fun h => by have := h3.2 h; simp; omega⟩
        rw [hge, hne]
        simpa [eI, Goal] using this
      · have := note_loop (vt := vt) hl key m n (i + 1) (t := t) (d := d) (acc := acc) (by omega) (by omega) ⟨by omega, fun h => by have := h3.2 h; omega⟩
        rw [hge, hne]
        simpa [Goal] using this
end Go.Den
end
section
namespace Go.Den
open Go
set_option linter.unusedVariables false
set_option linter.unusedSimpArgs false
theorem note_ret (t : Bool) {l : List Int} (hl : l.length ≤ 1000) (key : Int) : P2 (fun t' r => r = (noteL l key).map eI) (fun k => S_spec_l14Note t (l.map eI) key k) := by
  simp only [S_spec_l14Note, F_spec_l14Note, G_spec_l14Note_0]
  refine Goal.start ?_
  have := note_loop (vt := t) hl key l.length fuel 0 (t := true) (d := false) (acc := []) (by omega) (fuel_lt (by omega)) ⟨by simp, fun _ => by simp⟩
  refine Goal.bind4 (by simpa using this) ?_
  rintro y0 y1 y2 y3 ⟨rfl, acc, rfl, hlen, e⟩
  have e : (bif y2 then acc else acc ++ [y0]) = noteL l y0 := e
  refine Goal.cond (fun h => ?_) (fun h => ?_)
  · subst h
    exact Goal.leaf2 (by rw [← e]; rfl)
  · subst h
    refine Goal.req (lenOk_of (by simp; omega) (by decide)) ?_
    exact Goal.leaf2 (by rw [← e]; simp [eI])
theorem put_loop {vt : Bool} {l : List Wr} (hl : l.length ≤ 1000) (w : Wr) : ∀ (m n i : Nat) {t d : Bool} {acc : List Wr}, i + m = l.length → m < n → (acc.length ≤ i + 1 ∧ (d = false → acc.length ≤ i)) →
    P7 (fun y0 y1 y2 y3 y4 y5 y6 => y2 = w.key ∧ y3 = w.t ∧ y4 = w.row.map eV ∧ y5 = w.gone ∧ (∃ acc', y6 = acc'.map eWr ∧ acc'.length ≤ 1002 ∧ (bif y1 then acc' else acc' ++ [w]) = acc ++ putL (fun w => w.key) w.key w d (l.drop i))) (fun k => L_spec_l14Put_0 k vt (l.map eWr) w.key w.t (w.row.map eV) w.gone n t d (i : Int) (acc.map eWr))
  | 0, n + 1, i, t, d, acc, h1, h2, h3 => by
    simp only [L_spec_l14Put_0, B_spec_l14Put_0, List.length_map]
    rw [decide_eq_false (by omega), List.drop_eq_nil_of_le (by omega)]
    refine Goal.leaf7 ⟨rfl, rfl, rfl, rfl, acc, rfl, by omega, ?_⟩
    cases d <;> simp [putL]
  | m + 1, n + 1, i, t, d, acc, h1, h2, h3 => by
    have hi : i < l.length := by omega
    simp only [L_spec_l14Put_0, B_spec_l14Put_0, List.length_map, at_ilb_map]
    rw [decide_eq_true (by omega), List.getElem?_eq_getElem hi, w64_succ (by omega)]
    simp only [cond_true, Option.bind_some]
    rw [List.drop_eq_getElem_cons hi]
    simp only [putL]
    have lk : ∀ x, x ≤ 2000 → lenOk x 40 = true := fun x h => lenOk_of (by omega) (by decide)
    refine Goal.start ?_
    refine Goal.cond (fun hge => ?_) (fun hge => ?_)
    · refine Goal.cond (fun hd => ?_) (fun hd => ?_)
      · subst hd
        refine Goal.cond (fun hne => ?_) (fun hne => ?_)
        · refine Goal.req (lk _ (by simp; omega)) ?_
          have := put_loop (vt := vt) hl w m n (i + 1) (t := false) (d := true) (acc := acc ++ [l[i]]) (by omega) (by omega) ⟨by simp; omega, fun h => by cases h⟩
          rw [hge, hne]
          simpa [eWr, Goal] using this
        · have := put_loop (vt := vt) hl w m n (i + 1) (t := t) (d := true) (acc := acc) (by omega) (by omega) ⟨by omega, fun h => by cases h⟩
          rw [hge, hne]
          simpa [Goal] using this
      · subst hd
        refine Goal.req (lk _ (by simp; omega)) ?_
        refine Goal.cond (fun hne => ?_) (fun hne => ?_)
        · refine Goal.req (lk _ (by simp; omega)) ?_
          have := put_loop (vt := vt) hl w m n (i + 1) (t := false) (d := true) (acc := acc ++ [w, l[i]]) (by omega) (by omega) ⟨by have := h3.2 rfl; simp; omega, fun h => by cases h⟩
          rw [hge, hne]
          simpa [eWr, Goal] using this
        · have := put_loop (vt := vt) hl w m n (i + 1) (t := false) (d := true) (acc := acc ++ [w]) (by omega) (by omega) ⟨by have := h3.2 rfl; simp; omega, fun h => by cases h⟩
          rw [hge, hne]
          simpa [eWr, Goal] using this
    · refine Goal.cond (fun hne => ?_) (fun hne => ?_)
      · refine Goal.req (lk _ (by simp; omega)) ?_
        have := put_loop (vt := vt) hl w m n (i + 1) (t := false) (d := d) (acc := acc ++ [l[i]]) (by omega) (by omega) ⟨by simp; omega, fun h => by have := h3.2 h; simp; omega⟩
        rw [hge, hne]
        simpa [eWr, Goal] using this
      · have := put_loop (vt := vt) hl w m n (i + 1) (t := t) (d := d) (acc := acc) (by omega) (by omega) ⟨by omega, fun h => by have := h3.2 h; omega⟩
        rw [hge, hne]
        simpa [Goal] using this
theorem put_ret (t : Bool) {l : List Wr} (hl : l.length ≤ 1000) (w : Wr) : P2 (fun t' r => r = (putW l w).map eWr) (fun k => S_spec_l14Put t (l.map eWr) w.key w.t (w.row.map eV) w.gone k) := by
  simp only [S_spec_l14Put, F_spec_l14Put, G_spec_l14Put_0]
  refine Goal.start ?_
  have := put_loop (vt := t) hl w l.length fuel 0 (t := true) (d := false) (acc := []) (by omega) (fuel_lt (by omega)) ⟨by simp, fun _ => by simp⟩
  refine Goal.bind7 (by simpa using this) ?_
  rintro y0 y1 y2 y3 y4 y5 y6 ⟨rfl, rfl, rfl, rfl, acc, rfl, hlen, e⟩
  have e : (bif y1 then acc else acc ++ [w]) = putW l w := e
  refine Goal.cond (fun h => ?_) (fun h => ?_)
  · subst h
    exact Goal.leaf2 (by rw [← e]; rfl)
  · subst h
    refine Goal.req (lenOk_of (by simp; omega) (by decide)) ?_
    exact Goal.leaf2 (by rw [← e]; simp [eWr])
theorem late_loop0 {a1 a2 a3 a4 a5 a6 a7 b1 b2 b3 : Bool} {e18 e24 e25 : List (List RD)} {v14 v15 v19 v21 v22 v23 : Int} {x : List Tx} (hl : x.length ≤ 1000) (hx : ∀ v ∈ x, v.wr.length ≤ 1000000) : ∀ (m n i : Nat) {d : Bool}, i + m = x.length → m < n →
    P14 (fun y0 y1 y2 y3 y4 y5 y6 y7 y8 y9 y10 y11 y12 y13 => y0 = v14 ∧ y2 = a1 ∧ y3 = e18 ∧ y4 = v19 ∧ y5 = a2 ∧ y6 = x.map eTx ∧ y7 = v21 ∧ y8 = v22 ∧ y9 = v23 ∧ y10 = a3 ∧ y11 = e24 ∧ y12 = a4 ∧ y13 = e25)
      (fun k => L_spec_l14Late_0 S_spec_l14Own k v14 v15 a1 e18 v19 a2 (x.map eTx) v21 v22 v23 a3 e24 a4 e25 n d (i : Int))
  | 0, n + 1, i, d, h1, h2 => by
    simp only [L_spec_l14Late_0, B_spec_l14Late_0, List.length_map]
    rw [decide_eq_false (by omega)]
    exact Goal.leaf14 ⟨rfl, rfl, rfl, rfl, rfl, rfl, rfl, rfl, rfl, rfl, rfl, rfl, rfl⟩
  | m + 1, n + 1, i, d, h1, h2 => by
    have hi : i < x.length := by omega
    simp only [L_spec_l14Late_0, B_spec_l14Late_0, List.length_map, at_iiill_map]
    rw [decide_eq_true (by omega), List.getElem?_eq_getElem hi, w64_succ (by omega)]
    simp only [cond_true, Option.bind_some]
    refine Goal.start ?_
    have ih := fun d => late_loop0 (a1 := a1) (a2 := a2) (a3 := a3) (a4 := a4) (a5 := a5) (a6 := a6) (a7 := a7) (b1 := b1) (b2 := b2) (b3 := b3) (e18 := e18) (e24 := e24) (e25 := e25) (v14 := v14) (v15 := v15) (v19 := v19) (v21 := v21) (v22 := v22) (v23 := v23) hl hx m n (i + 1) (d := d) (by omega) (by omega)
    refine Goal.cond (fun _ => ih true) (fun _ => ?_)
    refine Goal.cond (fun _ => ?_) (fun _ => ih false)
    refine Goal.cond (fun _ => ?_) (fun _ => ih false)
    refine Goal.bind1 (own_ret _ _ _ _ _ _ (hx _ (get_mem hi)) _) ?_
    intro r _
    exact Goal.cond (fun _ => ih true) (fun _ => ih false)
theorem late_loop1 {a1 a2 a3 a4 : Bool} {l : List Ver} (hv : VrB l) {v19 v21 v22 v23 : Int} {rd : List (List RD)} {ws : List Wr} (hw : ws.length ≤ 1000) {x : List Tx} (hl : x.length ≤ 1000) (hx : ∀ v ∈ x, v.wr.length ≤ 1000000) : ∀ (m n i : Nat), i + m = ws.length → m < n →
    P1 (fun (_ : Bool) => True) (fun k => L_spec_l14Late_1 S_spec_LastTurn G_spec_l14Late_0 (fun y => k y) (k false) n (i : Int) a1 (l.map eVer) v19 a2 (x.map eTx) v21 v22 v23 a3 rd a4 (ws.map eWr))
  | 0, n + 1, i, h1, h2 => by
    simp only [L_spec_l14Late_1, B_spec_l14Late_1, List.length_map]
    rw [decide_eq_false (by omega)]
    exact ⟨false, trivial, fun _ => rfl⟩
  | m + 1, n + 1, i, h1, h2 => by
    have hi : i < ws.length := by omega
    simp only [L_spec_l14Late_1, B_spec_l14Late_1, List.length_map, at_ilb_map, spec_LastTurn_eq _ _ hv, G_spec_l14Late_0]
    rw [decide_eq_true (by omega), List.getElem?_eq_getElem hi]
    simp only [cond_true, Option.bind_some, spec_LastTurn_eq _ _ hv]
    refine Goal.start ?_
    have ih := late_loop1 (a1 := a1) (a2 := a2) (a3 := a3) (a4 := a4) hv (v19 := v19) (v21 := v21) (v22 := v22) (v23 := v23) (rd := rd) hw hl hx m n (i + 1) (by omega) (by omega)
    have go : ∀ d, Goal (P1 fun (_ : Bool) => True) (fun k => L_spec_l14Late_0 S_spec_l14Own (fun y52 y53 y54t y54 y55 y56t y56 y57 y58 y59 y60t y60 y61t y61 => bif y53 then k true else L_spec_l14Late_1 S_spec_LastTurn G_spec_l14Late_0 (fun y => k y) (k false) n (w64 (y52 + 1)) y54t y54 y55 y56t y56 y57 y58 y59 y60t y60 y61t y61) (i : Int) ws[i].key a1 (l.map eVer) v19 a2 (x.map eTx) v21 v22 v23 a3 rd a4 (ws.map eWr) fuel d 0) := by
      intro d
      have h0 := late_loop0 (a1 := a1) (a2 := a2) (a3 := a3) (a4 := a4) (a5 := a1) (a6 := a1) (a7 := a1) (b1 := a1) (b2 := a1) (b3 := a1) (e18 := l.map eVer) (e24 := rd) (e25 := ws.map eWr) (v14 := (i : Int)) (v15 := ws[i].key) (v19 := v19) (v21 := v21) (v22 := v22) (v23 := v23) hl hx x.length fuel 0 (d := d) (by omega) (fuel_lt (by omega))
      simp only [Int.natCast_zero] at h0
      refine Goal.bind14 h0 ?_
      rintro y0 y1 y2 y3 y4 y5 y6 y7 y8 y9 y10 y11 y12 y13 ⟨rfl, rfl, rfl, rfl, rfl, rfl, rfl, rfl, rfl, rfl, rfl, rfl, rfl⟩
      refine Goal.cond (fun _ => Goal.leaf1 trivial) (fun _ => ?_)
      rw [w64_succ (by omega)]
      exact ih
    exact Goal.cond (fun _ => go true) (fun _ => go false)
theorem late_ret (a1 a2 a3 a4 : Bool) {l : List Ver} (hv : VrB l) (v19 v21 v22 v23 : Int) (rd : List (List RD)) {ws : List Wr} (hw : ws.length ≤ 1000) {x : List Tx} (hl : x.length ≤ 1000) (hx : ∀ v ∈ x, v.wr.length ≤ 1000000) :
    P1 (fun _ => True) (fun k => S_spec_l14Late a1 (l.map eVer) v19 a2 (x.map eTx) v21 v22 v23 a3 rd a4 (ws.map eWr) k) := by
  simp only [S_spec_l14Late, F_spec_l14Late, G_spec_l14Late_1]
  have := late_loop1 (a1 := a1) (a2 := a2) (a3 := a3) (a4 := a4) hv (v19 := v19) (v21 := v21) (v22 := v22) (v23 := v23) (rd := rd) hw hl hx ws.length fuel 0 (by omega) (fuel_lt (by omega))
  simpa using this
end Go.Den
end
section
namespace Go.Den
open Go
set_option linter.unusedVariables false
set_option linter.unusedSimpArgs false
def updV (key time : Int) (v : Ver) : Ver := if (v.key == key) && (v.died == 0) then { v with died := time } else v
def newV (w : Wr) (time : Int) : Ver := ⟨w.key, time, 0, false, w.row⟩
def insV (w : Wr) (time : Int) : Bool → List Ver → List Ver
  | done, [] => if done then [] else [newV w time]
  | done, v :: r => (if decide (v.key > w.key) && !done then [newV w time] else []) ++ (updV w.key time v :: insV w time (done || decide (v.key > w.key)) r)
def writtenV (l : List Ver) (w : Wr) (time : Int) : List Ver := insV w time w.gone l
theorem insV_len (w : Wr) (time : Int) : ∀ (l : List Ver) (d : Bool), (insV w time d l).length ≤ l.length + 1
  | [], d => by simp only [insV]; cases d <;> simp
  | v :: r, d => by
    have h1 := insV_len w time r (d || decide (v.key > w.key))
    simp only [insV, List.length_append, List.length_cons]
    cases d with
    | true => simp at h1 ⊢; omega
    | false =>
      cases hv : decide (v.key > w.key) with
      | false => rw [hv] at h1; simp at h1 ⊢; omega
      | true =>
        have h2 : ∀ (l : List Ver), (insV w time true l).length = l.length := by
          intro l
          induction l with
          | nil => rfl
          | cons x r ih => simp only [insV, Bool.not_true, Bool.and_false, Bool.true_or, List.length_append, List.length_cons, ih]; simp
        rw [Bool.false_or, h2]
        simp; omega
theorem insV_mem {w : Wr} {time : Int} : ∀ {l : List Ver} {d : Bool} {v : Ver}, v ∈ insV w time d l → v = newV w time ∨ ∃ u ∈ l, v = updV w.key time u
  | [], d, v, h => by
    simp only [insV] at h
    split at h
    · cases h
    · simp at h; exact .inl h
  | x :: r, d, v, h => by
    simp only [insV, List.mem_append, List.mem_cons] at h
    rcases h with h | h | h
    · split at h
      · simp at h; exact .inl h
      · cases h
    · exact .inr ⟨x, by simp, h⟩
    · rcases insV_mem h with h | ⟨u, hu, h⟩
      · exact .inl h
      · exact .inr ⟨u, by simp [hu], h⟩
theorem updV_row (key time : Int) (v : Ver) : (updV key time v).row = v.row := by unfold updV; split <;> rfl
theorem wr_loop {vt : Bool} {l : List Ver} (hl : l.length ≤ 1000) {w : Wr} (hw : w.row.length ≤ 1073741824) (time : Int) : ∀ (m n i : Nat) {t d : Bool} {acc : List Ver}, i + m = l.length → m < n → (acc.length ≤ i + 1 ∧ (d = false → acc.length ≤ i)) →
    P8 (fun y0 y1 y2 y3 y4 y5 y6 y7 => y0 = time ∧ y3 = w.key ∧ y4 = w.t ∧ y5 = w.row.map eV ∧ (∃ acc', y7 = acc'.map eVer ∧ acc'.length ≤ 1002 ∧ (bif y2 then acc' else acc' ++ [newV w time]) = acc ++ insV w time d (l.drop i))) (fun k => L_spec_l13Written_0 S_spec_l3Own k vt (l.map eVer) time w.key w.t (w.row.map eV) w.gone n t d (i : Int) (acc.map eVer))
  | 0, n + 1, i, t, d, acc, h1, h2, h3 => by
    simp only [L_spec_l13Written_0, B_spec_l13Written_0, List.length_map]
    rw [decide_eq_false (by omega), List.drop_eq_nil_of_le (by omega)]
    refine Goal.leaf8 ⟨rfl, rfl, rfl, rfl, acc, rfl, by omega, ?_⟩
    cases d <;> simp [insV]
  | m + 1, n + 1, i, t, d, acc, h1, h2, h3 => by
    have hi : i < l.length := by omega
    simp only [L_spec_l13Written_0, B_spec_l13Written_0, List.length_map, at_iiil_map, spec_l3Own_eq _ _ hw]
    rw [decide_eq_true (by omega), List.getElem?_eq_getElem hi, w64_succ (by omega)]
    simp only [cond_true, Option.bind_some]
    rw [List.drop_eq_getElem_cons hi]
    simp only [insV]
    have lk : ∀ x, x ≤ 2000 → lenOk x 48 = true := fun x h => lenOk_of (by omega) (by decide)
    have ih := fun (d : Bool) (acc : List Ver) (h : acc.length ≤ i + 2 ∧ (d = false → acc.length ≤ i + 1)) => wr_loop (vt := vt) hl hw time m n (i + 1) (t := false) (d := d) (acc := acc) (by omega) (by omega) h
    have tail : ∀ (d : Bool) (acc : List Ver), (acc.length ≤ i + 1 ∧ (d = false → acc.length ≤ i)) → Goal (P8 fun y0 y1 y2 y3 y4 y5 y6 y7 => y0 = time ∧ y3 = w.key ∧ y4 = w.t ∧ y5 = w.row.map eV ∧ (∃ acc', y7 = acc'.map eVer ∧ acc'.length ≤ 1002 ∧ (bif y2 then acc' else acc' ++ [newV w time]) = acc ++ (updV w.key time l[i] :: insV w time d (l.drop (i + 1)))))
        (fun k => bif (l[i].key == w.key) then bif (l[i].died == 0) then req (lenOk ((acc.map eVer).length + 1) 48) <| L_spec_l13Written_0 S_spec_l3Own k vt (l.map eVer) time w.key w.t (w.row.map eV) w.gone n false d ((i + 1 : Nat) : Int) (acc.map eVer ++ [[iR l[i].key, iR l[i].born, iR time, .sl l[i].t (l[i].row.map eV)]])
            else req (lenOk ((acc.map eVer).length + 1) 48) <| L_spec_l13Written_0 S_spec_l3Own k vt (l.map eVer) time w.key w.t (w.row.map eV) w.gone n false d ((i + 1 : Nat) : Int) (acc.map eVer ++ [[iR l[i].key, iR l[i].born, iR l[i].died, .sl l[i].t (l[i].row.map eV)]])
          else req (lenOk ((acc.map eVer).length + 1) 48) <| L_spec_l13Written_0 S_spec_l3Own k vt (l.map eVer) time w.key w.t (w.row.map eV) w.gone n false d ((i + 1 : Nat) : Int) (acc.map eVer ++ [[iR l[i].key, iR l[i].born, iR l[i].died, .sl l[i].t (l[i].row.map eV)]])) := by
      intro d acc hacc
      have := ih d (acc ++ [updV w.key time l[i]]) ⟨by simp; omega, fun h => by have := hacc.2 h; simp; omega⟩
      rw [List.append_assoc, List.singleton_append] at this
      refine Goal.cond (fun hk => ?_) (fun hk => ?_)
      · refine Goal.cond (fun hd => ?_) (fun hd => ?_)
        · refine Goal.req (lk _ (by simp; omega)) ?_
          have e : updV w.key time l[i] = { l[i] with died := time } := by unfold updV; rw [hk, hd]; rfl
          rw [e] at this ⊢
          simpa [eVer, Goal] using this
        · refine Goal.req (lk _ (by simp; omega)) ?_
          have e : updV w.key time l[i] = l[i] := by unfold updV; rw [hk, hd]; rfl
          rw [e] at this ⊢
          simpa [eVer, Goal] using this
      · refine Goal.req (lk _ (by simp; omega)) ?_
        have e : updV w.key time l[i] = l[i] := by unfold updV; rw [hk]; rfl
        rw [e] at this ⊢
        simpa [eVer, Goal] using this
    refine Goal.start ?_
    refine Goal.cond (fun hgt => ?_) (fun hgt => ?_)
    · rw [hgt]
      refine Goal.cond (fun hd => ?_) (fun hd => ?_)
      · subst hd
        simpa using tail true acc ⟨by omega, fun h => by cases h⟩
      · subst hd
        refine Goal.req (lk _ (by simp; omega)) ?_
        have := tail true (acc ++ [newV w time]) ⟨by have := h3.2 rfl; simp; omega, fun h => by cases h⟩
        simpa [eVer, newV] using this
    · rw [hgt]
      have := tail d acc h3
      simpa using this
theorem written_ret (t : Bool) {l : List Ver} (hl : l.length ≤ 1000) {w : Wr} (hw : w.row.length ≤ 1073741824) (time : Int) : P2 (fun t' r => r = (writtenV l w time).map eVer) (fun k => S_spec_l13Written t (l.map eVer) w.key w.t (w.row.map eV) w.gone time k) := by
  simp only [S_spec_l13Written, F_spec_l13Written, G_spec_l13Written_0]
  have fin : ∀ d, w.gone = d → Goal (P2 fun t' r => r = (writtenV l w time).map eVer) (fun k => L_spec_l13Written_0 S_spec_l3Own (fun y22 y23t y24 y25 y26t y26 y27 y28 => bif y24 then k y23t y28 else S_spec_l3Own y26t y26 (fun r29t r29 => req (lenOk (y28.length + 1) 48) <| k false (y28 ++ ([[iR y25, iR y22, iR 0, .sl r29t r29]])))) t (l.map eVer) time w.key w.t (w.row.map eV) w.gone fuel true d 0 []) := by
    intro d hd
    have := wr_loop (vt := t) hl hw time l.length fuel 0 (t := true) (d := d) (acc := []) (by omega) (fuel_lt (by omega)) ⟨by simp, fun _ => by simp⟩
    refine Goal.bind8 (by simpa using this) ?_
    rintro y0 y1 y2 y3 y4 y5 y6 y7 ⟨rfl, rfl, rfl, rfl, acc, rfl, hlen, e⟩
    have e : (bif y2 then acc else acc ++ [newV w y0]) = writtenV l w y0 := by unfold writtenV; rw [hd]; exact e
    refine Goal.cond (fun h => ?_) (fun h => ?_)
    · subst h
      exact Goal.leaf2 (by rw [← e]; rfl)
    · subst h
      simp only [spec_l3Own_eq _ _ hw]
      refine Goal.req (lenOk_of (by simp; omega) (by decide)) ?_
      exact Goal.leaf2 (by rw [← e]; simp [eVer, newV])
  refine Goal.start ?_
  exact Goal.cond (fun h => fin true h) (fun h => fin false h)
theorem vers_chk (l : List Ver) : allFrom (stepV pairI l) l.length 0 = true ↔ chkL (fun v => verOk v = true) (fun w v => pairI w v = true) none l := by
  unfold stepV
  exact chk_iff verOk pairI l
theorem pairI_iff (w v : Ver) : pairI w v = true ↔ w.key < v.key ∨ (w.key = v.key ∧ w.born < v.born ∧ w.died ≠ 0 ∧ w.died ≤ v.born) := by
  unfold pairI
  simp only [Bool.and_eq_true, Bool.not_eq_true', decide_eq_false_iff_not, Bool.and_eq_false_iff, Bool.or_eq_false_iff, beq_eq_false_iff_ne, ne_eq]
  omega
theorem verOk_iff (v : Ver) : verOk v = true ↔ (0 ≤ v.key ∧ v.key ≤ 4) ∧ (1 ≤ v.born ∧ v.born ≤ 40) ∧ (v.died = 0 ∨ (v.born + 1 ≤ v.died ∧ v.died ≤ 40)) ∧ rowOk v.row = true := by
  unfold verOk
  simp only [Bool.and_eq_true, Bool.or_eq_true, beq_iff_eq, inB_iff]
  constructor
  · rintro ⟨h1, h2, h3, h4⟩
    rw [w64_id (by omega) (by omega)] at h3
    exact ⟨h1, h2, h3, h4⟩
  · rintro ⟨h1, h2, h3, h4⟩
    rw [w64_id (by omega) (by omega)]
    exact ⟨h1, h2, h3, h4⟩
theorem insV_chk {w : Wr} {time : Int} (hw : wrOk w = true) (ht : 1 ≤ time ∧ time ≤ 40) : ∀ {l : List Ver} {d : Bool} {o o' : Option Ver}, chkL (fun v => verOk v = true) (fun w v => pairI w v = true) o l → (∀ v ∈ l, v.key = w.key → v.born < time ∧ v.died < time) →
    (d = false → w.gone = false) → (∀ u', o' = some u' → (∀ v, (∀ u, o = some u → pairI u v = true) → pairI u' v = true) ∧ (d = false → u'.key < w.key ∨ (u'.key = w.key ∧ u'.born < time ∧ u'.died ≠ 0 ∧ u'.died ≤ time))) →
    chkL (fun v => verOk v = true) (fun w v => pairI w v = true) o' (insV w time d l)
  | [], d, o, o', h, hl, hg, ho => by
    simp only [insV]
    cases d with
    | true => trivial
    | false =>
      have hg := hg rfl
      unfold wrOk at hw
      simp only [Bool.and_eq_true, inB_iff] at hw
      refine ⟨(verOk_iff _).2 ⟨hw.1, ht, .inl rfl, hw.2.1⟩, fun u hu => (pairI_iff _ _).2 ?_, trivial⟩
      have := (ho u hu).2 rfl
      simp only [newV]; omega
  | v :: r, d, o, o', h, hl, hg, ho => by
    obtain ⟨h1, h2, h3⟩ := h
    have hv := hl v (by simp)
    have hr : ∀ u ∈ r, u.key = w.key → u.born < time ∧ u.died < time := fun u hu => hl u (by simp [hu])
    have hv1 := (verOk_iff v).1 h1
    -- the version, as it stands behind
    have hu1 : verOk (updV w.key time v) = true := by
      unfold updV
      split
      · rename_i hc
        simp only [Bool.and_eq_true, beq_iff_eq] at hc
        have := hv hc.1
        exact (verOk_iff _).2 ⟨hv1.1, hv1.2.1, .inr ⟨by simp only; omega, by simp only; omega⟩, hv1.2.2.2⟩
      · exact h1
    have huk : (updV w.key time v).key = v.key ∧ (updV w.key time v).born = v.born := by unfold updV; split <;> exact ⟨rfl, rfl⟩
    have hud : v.died ≠ 0 → (updV w.key time v).died = v.died := by
      intro hd; unfold updV; split
      · rename_i hc; simp only [Bool.and_eq_true, beq_iff_eq] at hc; exact (hd hc.2).elim
      · rfl
    have next : ∀ x, pairI v x = true → pairI (updV w.key time v) x = true := by
      intro x hx
      rw [pairI_iff] at hx ⊢
      rcases hx with hx | ⟨a, b, c, e⟩
      · exact .inl (by omega)
      · exact .inr ⟨by omega, by omega, by rw [hud c]; exact c, by rw [hud c]; exact e⟩
    have prev : ∀ u', o' = some u' → pairI u' (updV w.key time v) = true := by
      intro u' hu'
      have := (ho u' hu').1 v h2
      rw [pairI_iff] at this ⊢
      omega
    have rec_ : ∀ d', (d' = false → w.gone = false) → (d' = false → ¬ v.key > w.key) → chkL (fun v => verOk v = true) (fun w v => pairI w v = true) (some (updV w.key time v)) (insV w time d' r) := by
      intro d' hg' hd'
      refine insV_chk hw ht h3 hr hg' (fun u' hu' => ?_)
      cases hu'
      refine ⟨fun x hx => next x (hx v rfl), fun hf => ?_⟩
      have hle := hd' hf
      by_cases hk : v.key = w.key
      · right
        have := hv hk
        refine ⟨by omega, by omega, ?_, ?_⟩
        · by_cases hd0 : v.died = 0
          · have : (updV w.key time v).died = time := by unfold updV; rw [hk, hd0]; simp
            omega
          · rw [hud hd0]; exact hd0
        · by_cases hd0 : v.died = 0
          · have : (updV w.key time v).died = time := by unfold updV; rw [hk, hd0]; simp
            omega
          · rw [hud hd0]; omega
      · left; omega
    simp only [insV]
    by_cases hgt : v.key > w.key
    · rw [decide_eq_true hgt]
      cases d with
      | true =>
        simp only [Bool.not_true, Bool.and_false, Bool.true_or]
        exact ⟨hu1, prev, rec_ true (fun h => by cases h) (fun h => by cases h)⟩
      | false =>
        have hg := hg rfl
        have hw' := hw
        unfold wrOk at hw'
        simp only [Bool.and_eq_true, inB_iff] at hw'
        simp only [Bool.not_false, Bool.and_true, Bool.false_or, if_true]
        refine ⟨(verOk_iff _).2 ⟨hw'.1, ht, .inl rfl, hw'.2.1⟩, fun u hu => (pairI_iff _ _).2 ?_, hu1, fun u hu => ?_, rec_ true (fun h => by cases h) (fun h => by cases h)⟩
        · have := (ho u hu).2 rfl
          simp only [newV]; omega
        · cases hu
          exact (pairI_iff _ _).2 (.inl (by simp only [newV]; omega))
    · rw [decide_eq_false hgt]
      cases d with
      | true =>
        simp only [Bool.false_and, Bool.true_or]
        exact ⟨hu1, prev, rec_ true (fun h => by cases h) (fun h => by cases h)⟩
      | false =>
        simp only [Bool.false_and, Bool.false_or]
        exact ⟨hu1, prev, rec_ false hg (fun _ => hgt)⟩
end Go.Den
end
section
namespace Go.Den
open Go
set_option linter.unusedVariables false
set_option linter.unusedSimpArgs false
theorem emptyB_size {s : ByteArray} (h : emptyB s = true) : s.size = 0 := by
  unfold emptyB at h
  have h := eq_of_beq h
  rw [ByteArray.toList_eq, ByteArray.toList_eq] at h
  have h := congrArg List.length h
  have e : (bs []).data.toList.length = (bs []).size := Array.length_toList
  have e' : s.data.toList.length = s.size := Array.length_toList
  rw [e, e', bs_size] at h
  exact h
theorem valOk_size {v : Val} (h : valOk v = true) : v.s.size ≤ 6 := by
  unfold valOk at h
  cases h0 : v.k == 0 with
  | true => rw [h0] at h; simp only [cond_true, Bool.and_eq_true] at h; have := emptyB_size h.2; omega
  | false =>
    rw [h0] at h
    cases h1 : v.k == 1 with
    | true => rw [h1] at h; simp only [cond_true, cond_false, Bool.and_eq_true] at h; have := emptyB_size h.1; omega
    | false =>
      rw [h1] at h
      cases h2 : v.k == 2 with
      | true => rw [h2] at h; simp only [cond_true, cond_false, Bool.and_eq_true, decide_eq_true_eq] at h; omega
      | false => rw [h2] at h; simp only [cond_false, Bool.and_eq_true] at h; have := emptyB_size h.2.1; omega
theorem rowOk_rb {r : List Val} (h : rowOk r = true) : r.length ≤ 4 ∧ RB r := by
  unfold rowOk at h
  rw [Bool.and_eq_true, decide_eq_true_eq, List.all_eq_true] at h
  refine ⟨by omega, by omega, fun v hv => ?_⟩
  have := valOk_size (h.2 v hv)
  unfold VB; omega
theorem chk_len {α : Type} {ok : α → Prop} {key : α → Int} (hk : ∀ v, ok v → 0 ≤ key v ∧ key v ≤ 4) : ∀ {l : List α} {w : α}, chkL ok (fun w v => key w < key v) (some w) l → 0 ≤ key w → key w ≤ 4 → (l.length : Int) ≤ 4 - key w
  | [], w, _, _, h => by simp; omega
  | v :: r, w, h, h0, h1 => by
    obtain ⟨g1, g2, g3⟩ := h
    have := g2 w rfl
    have h4 := hk v g1
    have := chk_len hk g3 h4.1 h4.2
    simp only [List.length_cons]; omega
theorem chk_len0 {α : Type} {ok : α → Prop} {key : α → Int} (hk : ∀ v, ok v → 0 ≤ key v ∧ key v ≤ 4) {l : List α} (h : chkL ok (fun w v => key w < key v) none l) : l.length ≤ 5 := by
  cases l with
  | nil => simp
  | cons v r =>
    obtain ⟨g1, g2, g3⟩ := h
    have h4 := hk v g1
    have := chk_len hk g3 h4.1 h4.2
    simp only [List.length_cons]; omega
theorem reads_len {l : List Int} (h : readsOk l = true) : l.length ≤ 5 := chk_len0 (key := fun n => n) (fun v hv => inB_iff.1 hv) ((reads_chk l).1 h)
theorem versions_rb {l : List Ver} (h : versionsOk l = true) : l.length ≤ 60 ∧ VrB l := by
  unfold versionsOk at h
  rw [Bool.and_eq_true, decide_eq_true_eq] at h
  have hm := chkL_mem ((vers_chk l).1 h.1)
  exact ⟨by omega, by omega, fun v hv => (rowOk_rb ((verOk_iff v).1 (hm v hv)).2.2.2).2⟩
theorem writes_rb {l : List Wr} (h : writesOk l = true) : l.length ≤ 5 ∧ ∀ w ∈ l, wrOk w = true ∧ RB w.row := by
  refine ⟨writes_len h, fun w hw => ?_⟩
  have := chkL_mem ((writes_chk l).1 h) w hw
  refine ⟨this, ?_⟩
  unfold wrOk at this
  simp only [Bool.and_eq_true] at this
  exact (rowOk_rb this.2.1).2
theorem txOk_b {c : Int} {v : Tx} (h : txOk c v = true) : v.rd.length ≤ 5 ∧ v.wr.length ≤ 5 ∧ TxB v := by
  unfold txOk at h
  cases h0 : v.st == 0 with
  | true =>
    rw [h0] at h
    simp only [cond_true, Bool.and_eq_true, beq_iff_eq] at h
    have h1 : v.wr = [] := List.eq_nil_of_length_eq_zero (by omega)
    exact ⟨by omega, by omega, by omega, by omega, fun w hw => by rw [h1] at hw; cases hw⟩
  | false =>
    rw [h0] at h
    simp only [cond_false, Bool.and_eq_true] at h
    have h1 := reads_len h.1.2.1
    have h2 := writes_rb h.1.2.2
    exact ⟨h1, h2.1, by omega, by omega, fun w hw => (h2.2 w hw).2⟩
structure TxsP (c : Int) (x : List Tx) : Prop where
  ok : ∀ v ∈ x, txOk c v = true
  ends : ∀ (i j : Nat) (hi : i < x.length) (hj : j < x.length), i ≠ j → x[i].st = 2 → x[j].st = 2 → x[i].en ≠ x[j].en
theorem txs_iff {c : Int} {x : List Tx} (h4 : x.length = 4) : txsOk c x = true ↔ TxsP c x := by
  unfold txsOk
  rw [allFrom_true]
  have st : ∀ i (hi : i < x.length), stepT c x i = true ↔ txOk c x[i] = true ∧ ∀ j (hj : j < x.length), j < i → x[i].st = 2 → x[j].st = 2 → x[i].en ≠ x[j].en := by
    intro i hi
    unfold stepT
    rw [List.getElem?_eq_getElem hi, Option.all_some, Bool.and_eq_true, Bool.not_eq_true', Bool.and_eq_false_iff]
    refine and_congr Iff.rfl ?_
    constructor
    · rintro h j hj hji hs hs' he
      rcases h with h | h
      · rw [hs] at h; cases h
      · rw [List.any_eq_false] at h
        have hm : x[j] ∈ x.take i := by
          have : (x.take i)[j]'(by simp; omega) = x[j] := List.getElem_take
          rw [← this]; exact List.getElem_mem _
        have := h _ hm
        unfold doneAt at this
        rw [hs', he] at this
        simp at this
    · intro h
      by_cases hs : x[i].st = 2
      · right
        rw [List.any_eq_false]
        intro u hu
        obtain ⟨j, hj, rfl⟩ := List.getElem_of_mem hu
        have hj' : j < i := by have := hj; simp at this; omega
        rw [List.getElem_take]
        unfold doneAt
        intro hd
        rw [Bool.and_eq_true, beq_iff_eq, beq_iff_eq] at hd
        exact h j (by omega) hj' hs hd.1 hd.2
      · left; simp [hs]
  constructor
  · intro h
    refine ⟨fun v hv => ?_, fun i j hi hj hne hs hs' => ?_⟩
    · obtain ⟨i, hi, rfl⟩ := List.getElem_of_mem hv
      exact ((st i hi).1 (h i (by omega) (by omega))).1
    · by_cases hji : j < i
      · exact ((st i hi).1 (h i (by omega) (by omega))).2 j hj hji hs hs'
      · exact fun e => ((st j hj).1 (h j (by omega) (by omega))).2 i hi (by omega) hs' hs e.symm
  · intro h i _ hi
    exact (st i (by omega)).2 ⟨h.ok _ (List.getElem_mem _), fun j hj hji hs hs' => h.ends i j (by omega) hj (by omega) hs hs'⟩
structure HouseP (l : List Ver) (c : Int) (x : List Tx) : Prop where
  vs : versionsOk l = true
  clk : 0 ≤ c ∧ c ≤ 40
  turns : turnsOk l c = true
  four : x.length = 4
  txs : TxsP c x
theorem house_iff {l : List Ver} {c : Int} {x : List Tx} : houseOk l c x = true ↔ HouseP l c x := by
  unfold houseOk
  simp only [Bool.and_eq_true, inB_iff, beq_iff_eq]
  constructor
  · rintro ⟨h1, h2, h3, h4, h5⟩
    have h4 : x.length = 4 := by omega
    exact ⟨h1, h2, h3, h4, (txs_iff h4).1 h5⟩
  · rintro ⟨h1, h2, h3, h4, h5⟩
    exact ⟨h1, h2, h3, by omega, (txs_iff h4).2 h5⟩
theorem turns_iff {l : List Ver} {c : Int} (hv : ∀ v ∈ l, 0 ≤ v.key ∧ v.key ≤ 4) (hc : 0 ≤ c) : turnsOk l c = true ↔ ∀ v ∈ l, v.born ≤ c ∧ v.died ≤ c := by
  unfold turnsOk
  rw [allFrom_true]
  constructor
  · intro h v hm
    obtain ⟨j, hj, rfl⟩ := List.getElem_of_mem hm
    have hk := hv _ (List.getElem_mem hj)
    obtain ⟨n, hn⟩ : ∃ n : Nat, l[j].key = (n : Int) := ⟨l[j].key.toNat, by omega⟩
    have h5 := h n (by omega) (by omega)
    simp only [Bool.not_eq_true', decide_eq_false_iff_not] at h5
    obtain ⟨h6, h7⟩ := fold_at l (n : Int) l.length 0 0 j hj (by omega) (by omega) hn
    unfold lastTurn at h5
    exact ⟨by omega, by omega⟩
  · intro h i _ _
    simp only [Bool.not_eq_true', decide_eq_false_iff_not]
    have key : ∀ m i' a, a ≤ c → foldFrom (turnG l (i : Int)) m i' a ≤ c := by
      intro m
      induction m with
      | zero => intro i' a ha; exact ha
      | succ m ih =>
        intro i' a ha
        refine ih (i' + 1) _ ?_
        unfold turnG
        cases hg : l[i']? with
        | none => exact ha
        | some v =>
          have := h v (List.mem_of_getElem? hg)
          simp only [Option.elim_some]
          cases (v.key == (i : Int)) with
          | false => exact ha
          | true => simp only [cond_true]; split <;> split <;> omega
    have := key l.length 0 0 hc
    unfold lastTurn
    omega
theorem verOk_cl (v : Ver) : verOk (clV v) = verOk v := rfl
theorem clV_chk : ∀ {l : List Ver} {o : Option Ver}, chkL (fun v => verOk v = true) (fun w v => pairI w v = true) o l → chkL (fun v => verOk v = true) (fun w v => pairI w v = true) (o.map clV) (l.map clV)
  | [], _, _ => trivial
  | v :: r, o, h => by
    obtain ⟨h1, h2, h3⟩ := h
    refine ⟨h1, fun w hw => ?_, clV_chk h3⟩
    cases o with
    | none => cases hw
    | some u => cases hw; exact h2 u rfl
theorem writesOk_cl {l : List Wr} (h : writesOk l = true) : writesOk (l.map clW) = true := by
  rw [writes_chk] at h ⊢
  have : ∀ {l : List Wr} {o : Option Wr}, chkL (fun w => wrOk w = true) (fun w v => w.key < v.key) o l → chkL (fun w => wrOk w = true) (fun w v => w.key < v.key) (o.map clW) (l.map clW) := by
    intro l
    induction l with
    | nil => intro o _; trivial
    | cons v r ih =>
      intro o h
      obtain ⟨h1, h2, h3⟩ := h
      refine ⟨h1, fun w hw => ?_, ih h3⟩
      cases o with
      | none => cases hw
      | some u => cases hw; exact h2 u rfl
  exact this h
theorem txOk_cl {c : Int} {v : Tx} (h : txOk c v = true) : txOk c (clT v) = true := by
  unfold txOk at h ⊢
  simp only [clT, List.length_map]
  cases h0 : v.st == 0 with
  | true => rw [h0] at h; exact h
  | false =>
    rw [h0] at h
    simp only [cond_false, Bool.and_eq_true] at h ⊢
    exact ⟨⟨h.1.1, h.1.2.1, writesOk_cl h.1.2.2⟩, h.2⟩
theorem HouseP.copy {l : List Ver} {c : Int} {x : List Tx} (h : HouseP l c x) : HouseP (l.map clV) c (x.map clT) := by
  have hv := h.vs
  unfold versionsOk at hv
  rw [Bool.and_eq_true, decide_eq_true_eq, vers_chk] at hv
  have hm := chkL_mem hv.1
  have hk : ∀ v ∈ l, 0 ≤ v.key ∧ v.key ≤ 4 := fun v hv => ((verOk_iff v).1 (hm v hv)).1
  refine ⟨?_, h.clk, ?_, by rw [List.length_map]; exact h.four, ?_, ?_⟩
  · unfold versionsOk
    rw [Bool.and_eq_true, decide_eq_true_eq, vers_chk, List.length_map]
    exact ⟨clV_chk hv.1, hv.2⟩
  · rw [turns_iff (fun v hv => by obtain ⟨u, hu, rfl⟩ := List.mem_map.1 hv; exact hk u hu) h.clk.1]
    intro v hv
    obtain ⟨u, hu, rfl⟩ := List.mem_map.1 hv
    exact (turns_iff hk h.clk.1).1 h.turns u hu
  · intro v hv
    obtain ⟨u, hu, rfl⟩ := List.mem_map.1 hv
    exact txOk_cl (h.txs.ok u hu)
  · intro i j hi hj hne hs hs'
    simp only [List.getElem_map] at hs hs' ⊢
    exact h.txs.ends i j (by simpa using hi) (by simpa using hj) hne hs hs'
theorem HouseP.set {l : List Ver} {c : Int} {x : List Tx} (h : HouseP l c x) {i : Nat} (hi : i < x.length) {n : Tx} (hn : txOk c n = true) (he : n.st ≠ 2) : HouseP l c (x.set i n) := by
  refine ⟨h.vs, h.clk, h.turns, by rw [List.length_set]; exact h.four, fun v hv => ?_, fun a b ha hb hne hs hs' => ?_⟩
  · rcases List.mem_or_eq_of_mem_set hv with hv | hv
    · exact h.txs.ok v hv
    · rw [hv]; exact hn
  · have ha' : a < x.length := by simpa using ha
    have hb' : b < x.length := by simpa using hb
    by_cases h1 : i = a
    · subst h1; rw [List.getElem_set_self] at hs; exact (he hs).elim
    · by_cases h2 : i = b
      · subst h2; rw [List.getElem_set_self] at hs'; exact (he hs').elim
      · rw [List.getElem_set_ne h1] at hs ⊢
        rw [List.getElem_set_ne h2] at hs' ⊢
        exact h.txs.ends a b ha' hb' hne hs hs'
theorem txOk_later {c : Int} {v : Tx} (h : txOk c v = true) (hc : 0 ≤ c ∧ c ≤ 40) : txOk (c + 1) v = true ∧ (v.st = 2 → v.en ≤ c) := by
  unfold txOk at h ⊢
  cases h0 : v.st == 0 with
  | true =>
    rw [h0] at h
    have : v.st = 0 := by simpa using h0
    exact ⟨h, fun e => by omega⟩
  | false =>
    rw [h0] at h
    simp only [cond_false, Bool.and_eq_true, inB_iff] at h ⊢
    cases h2 : v.st == 2 with
    | true =>
      rw [h2] at h
      simp only [cond_true, inB_iff] at h ⊢
      exact ⟨⟨⟨by omega, h.1.2⟩, by omega⟩, fun _ => h.2.2⟩
    | false =>
      rw [h2] at h
      refine ⟨⟨⟨by omega, h.1.2⟩, h.2⟩, fun e => ?_⟩
      rw [e] at h2; cases h2
end Go.Den
end
section
namespace Go.Den
open Go
set_option linter.unusedVariables false
set_option linter.unusedSimpArgs false
structure VersP (l : List Ver) (c : Int) : Prop where
  chk : chkL (fun v => verOk v = true) (fun w v => pairI w v = true) none l
  le : ∀ v ∈ l, v.born ≤ c ∧ v.died ≤ c
theorem vers_key {l : List Ver} (h : versionsOk l = true) : ∀ v ∈ l, 0 ≤ v.key ∧ v.key ≤ 4 := by
  unfold versionsOk at h
  rw [Bool.and_eq_true, vers_chk] at h
  exact fun v hv => ((verOk_iff v).1 (chkL_mem h.1 v hv)).1
theorem updV_le {key c time : Int} {u : Ver} (hc : c ≤ time) (h : u.born ≤ c ∧ u.died ≤ c) : (updV key time u).born ≤ time ∧ (updV key time u).died ≤ time := by
  unfold updV
  split
  · exact ⟨by simp only; omega, by simp only; omega⟩
  · omega
theorem writtens_ok {time : Int} (ht : 1 ≤ time ∧ time ≤ 40) : ∀ {ws : List Wr} {o : Option Wr} {l : List Ver}, chkL (fun w => wrOk w = true) (fun w v => w.key < v.key) o ws → VersP l time →
    (∀ v ∈ l, ∀ w ∈ ws, v.key = w.key → v.born < time ∧ v.died < time) → VersP (ws.foldl (fun l w => writtenV l w time) l) time
  | [], o, l, _, h, _ => h
  | w :: r, o, l, hw, h, hl => by
    obtain ⟨h1, h2, h3⟩ := hw
    have gt := chkL_gt (o := o) (key := fun w : Wr => w.key) h3
    rw [List.foldl_cons]
    refine writtens_ok ht h3 ⟨?_, fun v hv => ?_⟩ (fun v hv u hu hk => ?_)
    · unfold writtenV
      exact insV_chk h1 ht h.chk (fun v hv => hl v hv w (by simp)) (fun e => e) (fun u hu => by cases hu)
    · rcases insV_mem hv with rfl | ⟨u, hu, rfl⟩
      · exact ⟨Int.le_refl _, by simp only [newV]; omega⟩
      · exact updV_le (Int.le_refl _) (h.le u hu)
    · have g := gt u hu
      rcases insV_mem hv with rfl | ⟨x, hx, rfl⟩
      · simp only [newV] at hk; omega
      · have hx' : updV w.key time x = x := by
          unfold updV at hk ⊢
          split at hk
          · rename_i hc
            simp only [Bool.and_eq_true, beq_iff_eq] at hc
            simp only at hk; omega
          · rename_i hc; rw [if_neg hc]
        rw [hx'] at hk ⊢
        exact hl x hx u (by simp [hu]) hk
theorem written_loop {wt : Bool} {ws : List Wr} {time : Int} (hs : ws.length ≤ 1000) (hw : ∀ w ∈ ws, w.row.length ≤ 1073741824) : ∀ (m n i : Nat) {t : Bool} {l : List Ver}, i + m = ws.length → m < n → l.length + m ≤ 1000 →
    P2 (fun t' r => r = ((ws.drop i).foldl (fun l w => writtenV l w time) l).map eVer) (fun k => L_spec_WrittenAt_1 S_spec_l13Written k wt (ws.map eWr) time n t (i : Int) (l.map eVer))
  | 0, n + 1, i, t, l, h1, h2, h3 => by
    simp only [L_spec_WrittenAt_1, B_spec_WrittenAt_1, List.length_map]
    rw [decide_eq_false (by omega), List.drop_eq_nil_of_le (by omega)]
    exact Goal.leaf2 rfl
  | m + 1, n + 1, i, t, l, h1, h2, h3 => by
    have hi : i < ws.length := by omega
    simp only [L_spec_WrittenAt_1, B_spec_WrittenAt_1, List.length_map, at_ilb_map]
    rw [decide_eq_true (by omega), List.getElem?_eq_getElem hi]
    simp only [cond_true, Option.bind_some]
    refine Goal.start ?_
    refine Goal.bind2 (written_ret t (by omega) (hw _ (List.getElem_mem hi)) time) ?_
    rintro t1 r rfl
    rw [List.drop_eq_getElem_cons hi, List.foldl_cons, w64_succ (by omega)]
    have := insV_len ws[i] time l ws[i].gone
    exact written_loop hs hw m n (i + 1) (by omega) (by omega) (by unfold writtenV; omega)
theorem writtenAt_ret (t wt : Bool) {l : List Ver} (hl : VrB l) {ws : List Wr} (hw : WB ws) (time : Int) :
    P3 (fun t' r ok => ∃ l' : List Ver, r = l'.map eVer ∧ (ok = true → inB time 1 40 = true ∧ versionsOk l' = true ∧ ∀ v ∈ l', v.born ≤ time ∧ v.died ≤ time)) (fun k => S_spec_WrittenAt t (l.map eVer) wt (ws.map eWr) time k) := by
  simp only [S_spec_WrittenAt, F_spec_WrittenAt, G_spec_WrittenAt_0, G_spec_WrittenAt_1, spec_VersionsOk_eq _ _ hl, spec_WritesOk_eq _ _ hw, spec_l1In_eq]
  have no : Goal (P3 fun (t' : Bool) (r : List (List RD)) (ok : Bool) => ∃ l' : List Ver, r = l'.map eVer ∧ (ok = true → inB time 1 40 = true ∧ versionsOk l' = true ∧ ∀ v ∈ l', v.born ≤ time ∧ v.died ≤ time)) (fun k => k true [] false) := Goal.leaf3 ⟨[], rfl, fun h => by cases h⟩
  refine Goal.start ?_
  refine Goal.cond (fun hv => ?_) (fun _ => no)
  refine Goal.cond (fun hs => ?_) (fun _ => no)
  refine Goal.cond (fun ht => ?_) (fun _ => no)
  have ht' := inB_iff.1 ht
  have run := fun k0 k1 => loop_all (L := L_spec_WrittenAt_0 S_spec_LastTurn k0 k1 t (l.map eVer) wt (ws.map eWr) time) (len := 5) (f := fun i => !decide (lastTurn l (i : Int) > time - 1))
    (kt := k1 t (l.map eVer) wt (ws.map eWr) time) (kf := k0 true false [])
    (fun n i hi => by
      simp only [L_spec_WrittenAt_0, B_spec_WrittenAt_0, spec_LastTurn_eq _ _ hl, hv, cond_true]
      rw [decide_eq_true (by omega), cond_true, w64_succ (by omega)]
      have e : decide (lastTurn l (i : Int) ≥ time) = decide (lastTurn l (i : Int) > time - 1) := by rw [decide_eq_decide]; omega
      rw [e]
      cases decide (lastTurn l (i : Int) > time - 1) <;> rfl)
    (fun n => by simp only [L_spec_WrittenAt_0, B_spec_WrittenAt_0]; rw [decide_eq_false (by omega), cond_false]) 5 0 fuel (by omega) (fuel_lt (by omega))
  refine Goal.fn (G := fun k => bif turnsOk l (time - 1) then S_spec_l13Copy t (l.map eVer) (fun r21t r21 =>
                  L_spec_WrittenAt_1 S_spec_l13Written (fun y33t y34 =>
                    bif decide ((y34.length : Int) > 60) then
                      k true ([]) false
                    else
                      k y33t y34 true) wt (ws.map eWr) time fuel r21t 0 r21) else k true [] false) ?_ (fun k => by
        have := run (fun y15t y16 y17 => k y15t y17 y16) (fun y18t y18 y19t y19 y20 => S_spec_l13Copy y18t y18 (fun r21t r21 =>
                  L_spec_WrittenAt_1 S_spec_l13Written (fun y33t y34 =>
                    bif decide ((y34.length : Int) > 60) then
                      k true ([]) false
                    else
                      k y33t y34 true) y19t y19 y20 fuel r21t 0 r21))
        exact this)
  refine Goal.cond (fun hturn => ?_) (fun _ => no)
  have hb := versions_rb hv
  refine Goal.bind2 (copyV_ret t (by omega) (fun v hv => (hl.2 v hv).1)) ?_
  rintro t1 r rfl
  have hws := writes_rb hs
  have := written_loop (wt := wt) (time := time) (ws := ws) (by omega) (fun w h => (hws.2 w h).2.1) ws.length fuel 0 (t := t1) (l := l.map clV) (by omega) (fuel_lt (by omega)) (by simp; omega)
  refine Goal.bind2 (by rw [List.drop_zero] at this; exact this) ?_
  rintro t2 r rfl
  have hle := (turns_iff (vers_key hv) (by omega)).1 hturn
  have fin : VersP (ws.foldl (fun l w => writtenV l w time) (l.map clV)) time := by
    refine writtens_ok ht' ((writes_chk ws).1 hs) ⟨?_, fun v hv => ?_⟩ (fun v hv w _ _ => ?_)
    · unfold versionsOk at hv
      rw [Bool.and_eq_true, vers_chk] at hv
      exact clV_chk hv.1
    · obtain ⟨u, hu, rfl⟩ := List.mem_map.1 hv
      have := hle u hu
      simp only [clV]; omega
    · obtain ⟨u, hu, rfl⟩ := List.mem_map.1 hv
      have := hle u hu
      simp only [clV]; omega
  refine Goal.cond (fun _ => no) (fun h60 => ?_)
  have h60 := of_decide_eq_false h60
  rw [List.length_map] at h60
  refine Goal.leaf3 ⟨_, rfl, fun _ => ⟨ht, ?_, fin.le⟩⟩
  unfold versionsOk
  rw [Bool.and_eq_true, vers_chk, decide_eq_true_eq]
  exact ⟨fin.chk, by omega⟩
end Go.Den
end
section
namespace Go.Den
open Go
set_option linter.unusedVariables false
set_option linter.unusedSimpArgs false
def StepQ (r : Int) (bt : Bool) (c : Int) (t : Bool) (ls xs : List (List RD)) : Prop := ∃ (l : List Ver) (x : List Tx), ls = l.map eVer ∧ xs = x.map eTx ∧ HouseP l c x
theorem part_tx {x : List Tx} {i : Nat} (hi : i < x.length) (k) : part_iiill (x.map eTx) i 0 k = k x[i].st x[i].bg x[i].en x[i].rt (x[i].rd.map eI) x[i].wt (x[i].wr.map eWr) := by
  unfold part_iiill part_
  rw [List.getElem?_map, List.getElem?_eq_getElem hi]
  rfl
theorem put_tx {x : List Tx} {i : Nat} (hi : i < x.length) {j n : Nat} (hj : j + n ≤ 5) (K : List RD → Option FR) : put_ (x.map eTx) i j n K = K (eTx x[i]) :=
  put_get (by rw [List.getElem?_map, List.getElem?_eq_getElem hi]; rfl) hj K
theorem set_tx (x : List Tx) (i : Nat) (v : Tx) (a b d : Int) (rt : Bool) (rd : List Int) (wt : Bool) (wr : List Wr) :
    (x.map eTx).set i (splice (eTx v) 0 [iR a, iR b, iR d, .sl rt (rd.map eI), .sl wt (wr.map eWr)]) = (x.set i ⟨a, b, d, rt, rd, wt, wr⟩).map eTx := by
  rw [List.map_set]; rfl
theorem step_set {l : List Ver} {c : Int} {x : List Tx} (h : HouseP l c x) {i : Nat} (hi : i < x.length) {v : Tx} {r : Int} {bt t : Bool} (a b d : Int) (rt : Bool) (rd : List Int) (wt : Bool) (wr : List Wr) (hn : txOk c ⟨a, b, d, rt, rd, wt, wr⟩ = true) (h2 : a ≠ 2) :
    StepQ r bt c t (l.map eVer) ((x.map eTx).set i (splice (eTx v) 0 [iR a, iR b, iR d, .sl rt (rd.map eI), .sl wt (wr.map eWr)])) :=
  ⟨l, _, rfl, set_tx _ _ _ _ _ _ _ _ _ _, h.set hi hn h2⟩
theorem step_keep {l : List Ver} {c : Int} {x : List Tx} (h : HouseP l c x) {r : Int} {bt t : Bool} : StepQ r bt c t (l.map eVer) (x.map eTx) := ⟨l, x, rfl, rfl, h⟩
theorem tx_one {c : Int} {v : Tx} (h : txOk c v = true) (h1 : v.st = 1) : inB v.bg 0 c = true ∧ readsOk v.rd = true ∧ writesOk v.wr = true ∧ v.en = 0 := by
  unfold txOk at h
  rw [h1] at h
  simp only [show ((1 : Int) == 0) = false from rfl, show ((1 : Int) == 2) = false from rfl, show ((1 : Int) == 1) = true from rfl, cond_false, Bool.true_or, Bool.true_and, Bool.and_eq_true, beq_iff_eq] at h
  exact ⟨h.1.1, h.1.2.1, h.1.2.2, h.2⟩
theorem tx_mk {c st bg en : Int} {rt : Bool} {rd : List Int} {wt : Bool} {wr : List Wr} (h : st = 1 ∨ st = 3) (hb : inB bg 0 c = true) (hr : readsOk rd = true) (hw : writesOk wr = true) (he : en = 0) : txOk c ⟨st, bg, en, rt, rd, wt, wr⟩ = true := by
  unfold txOk
  simp only [hb, hr, hw, he]
  rcases h with rfl | rfl <;> rfl
theorem step_done {l : List Ver} {c : Int} {x : List Tx} (h : HouseP l c x) {i : Nat} (hi : i < x.length) (h1 : x[i].st = 1) {l' : List Ver} (hin : inB (c + 1) 1 40 = true) (hv : versionsOk l' = true) (hle : ∀ v ∈ l', v.born ≤ c + 1 ∧ v.died ≤ c + 1) {r : Int} {bt t : Bool} :
    StepQ r bt (c + 1) t (l'.map eVer) ((x.map eTx).set i (splice (eTx x[i]) 0 [iR 2, iR x[i].bg, iR (c + 1), .sl x[i].rt (x[i].rd.map eI), .sl x[i].wt (x[i].wr.map eWr)])) := by
  have ho := h.txs.ok _ (List.getElem_mem hi)
  have g := tx_one ho h1
  have hin := inB_iff.1 hin
  refine ⟨l', _, rfl, set_tx _ _ _ _ _ _ _ _ _ _, hv, by omega, (turns_iff (vers_key hv) (by omega)).2 hle, by rw [List.length_set]; exact h.four, fun v hm => ?_, fun a b ha hb hne hs hs' => ?_⟩
  · rcases List.mem_or_eq_of_mem_set hm with hm | rfl
    · exact (txOk_later (h.txs.ok v hm) h.clk).1
    · have g1 := inB_iff.1 g.1
      unfold txOk
      simp only [g.2.1, g.2.2.1]
      rw [show ((2 : Int) == 0) = false from rfl, show ((2 : Int) == 2) = true from rfl]
      simp only [cond_false, cond_true, Bool.and_true, Bool.and_eq_true, inB_iff]
      rw [w64_id (by omega) (by omega)]
      omega
  · have ha' : a < x.length := by simpa using ha
    have hb' : b < x.length := by simpa using hb
    by_cases e1 : i = a
    · subst e1
      rw [List.getElem_set_self]
      rw [List.getElem_set_ne hne] at hs' ⊢
      have := (txOk_later (h.txs.ok _ (List.getElem_mem hb')) h.clk).2 hs'
      simp only; omega
    · rw [List.getElem_set_ne e1] at hs ⊢
      by_cases e2 : i = b
      · subst e2
        rw [List.getElem_set_self]
        have := (txOk_later (h.txs.ok _ (List.getElem_mem ha')) h.clk).2 hs
        simp only; omega
      · rw [List.getElem_set_ne e2] at hs' ⊢
        exact h.txs.ends a b ha' hb' hne hs hs'
theorem bne_false {a b : Int} (h : (a != b) = false) : a = b := by simpa using h
theorem step_ret {a1 a2 a3 a4 a5 a6 a7 a8 : Bool} {l : List Ver} (hl : VrB l) {c : Int} {x : List Tx} (hx : x.length ≤ 1000) (hxw : ∀ v ∈ x, v.wr.length ≤ 1000000) {l2 : List Ver} {x2 : List Tx} (H : HouseP l2 c x2) (kind : Int) {i : Nat} (hi : i < x2.length) {key : Int} (hk : inB key 0 4 = true) {row : List Val} (hr : rowOk row = true) (y : Int) (e1 e2 : List (List RD)) :
    P6 StepQ (fun k => G_spec_HouseStep_j0 k a1 (l.map eVer) c a2 (x.map eTx) kind (i : Int) key a3 (row.map eV) a4 y a5 e1 e2 a6 c a7 (l2.map eVer) (x2.map eTx)) := by
  simp only [G_spec_HouseStep_j0, B_spec_HouseStep_j0]
  have hidx : idxOk (i : Int) (x2.map eTx).length = true := by unfold idxOk; simp; omega
  have hrb := rowOk_rb hr
  have hc := H.clk
  have hok := H.txs.ok _ (List.getElem_mem hi)
  have hb := txOk_b hok
  have hwb : WB x2[i].wr := ⟨by omega, hb.2.2.row⟩
  simp only [Int.toNat_natCast, part_tx hi, put_tx hi (show 0 + 5 ≤ 5 by omega), spec_l3Own_eq _ _ hrb.2.1]
  rw [w64_id (n := c + 1) (by omega) (by omega)]
  generalize hv : x2[i] = v at *
  have one : (v.st != 1) = false → inB v.bg 0 c = true ∧ readsOk v.rd = true ∧ writesOk v.wr = true ∧ v.en = 0 := fun h => tx_one hok (bne_false h)
  have wR : wrOk ⟨key, false, row, false⟩ = true := by unfold wrOk; simp only [hk, hr]; rfl
  have wE : wrOk ⟨key, true, [], true⟩ = true := by unfold wrOk; simp only [hk]; rfl
  have ne : (v.st != 1) = false → v.st ≠ 2 := fun h => by rw [bne_false h]; decide
  have t0 : txOk c ⟨1, c, 0, true, [], true, []⟩ = true := tx_mk (.inl rfl) (inB_iff.2 (by omega)) rfl rfl rfl
  have t1 : ∀ {rt rd wt wr}, (inB v.bg 0 c = true ∧ readsOk v.rd = true ∧ writesOk v.wr = true ∧ v.en = 0) → readsOk rd = true → writesOk wr = true → (v.st != 1) = false → txOk c ⟨v.st, v.bg, v.en, rt, rd, wt, wr⟩ = true := fun o h1 h2 h => tx_mk (.inl (bne_false h)) o.1 h1 h2 o.2.2.2
  have t3 : (inB v.bg 0 c = true ∧ readsOk v.rd = true ∧ writesOk v.wr = true ∧ v.en = 0) → txOk c ⟨3, v.bg, v.en, v.rt, v.rd, v.wt, v.wr⟩ = true := fun o => tx_mk (.inr rfl) o.1 o.2.1 o.2.2.1 o.2.2.2
  have putR : ∀ t, P2 (fun t' r => r = (putW v.wr ⟨key, false, row, false⟩).map eWr) (fun k => S_spec_l14Put t (v.wr.map eWr) key false (row.map eV) false k) := fun t => put_ret t (l := v.wr) (by omega) ⟨key, false, row, false⟩
  have putE : ∀ t, P2 (fun t' r => r = (putW v.wr ⟨key, true, [], true⟩).map eWr) (fun k => S_spec_l14Put t (v.wr.map eWr) key true [] true k) := fun t => put_ret t (l := v.wr) (by omega) ⟨key, true, [], true⟩
  refine Goal.start ?_
  refine Goal.req hidx ?_
  repeat' (first
    | (with_reducible refine Goal.cond (fun hc_ => ?_) (fun hc_ => ?_))
    | (with_reducible refine Goal.bind1 (own_ret _ _ _ _ _ _ (by omega) _) ?_; intro _ _)
    | (with_reducible refine Goal.bind2 (note_ret _ (by omega) _) ?_; rintro _ _ rfl)
    | (with_reducible refine Goal.bind1 (late_ret _ _ _ _ hl _ _ _ _ _ (by omega) hx hxw) ?_; intro _ _)
    | (with_reducible refine Goal.bind3 (writtenAt_ret _ _ hl hwb _) ?_; rintro _ _ _ ⟨_, rfl, hW⟩)
    | (with_reducible refine Goal.bind2 (putR _) ?_; rintro _ _ rfl)
    | (with_reducible refine Goal.bind2 (putE _) ?_; rintro _ _ rfl)
    | (with_reducible refine Goal.req hidx ?_)
    | exact Goal.leaf6 (step_keep H)
    | exact Goal.leaf6 (step_set H hi 1 c 0 true [] true [] t0 (by decide))
    | exact Goal.leaf6 (step_set H hi _ _ _ _ (noteL v.rd key) _ v.wr (t1 (one ‹_›) (note_ok (one ‹_›).2.1 hk) (one ‹_›).2.2.1 ‹_›) (ne ‹_›))
    | exact Goal.leaf6 (step_set H hi _ _ _ _ v.rd _ v.wr hok (ne ‹_›))
    | exact Goal.leaf6 (step_set H hi _ _ _ _ v.rd _ (putW v.wr ⟨key, false, row, false⟩) (t1 (one ‹_›) (one ‹_›).2.1 (putW_ok (one ‹_›).2.2.1 wR) ‹_›) (ne ‹_›))
    | exact Goal.leaf6 (step_set H hi _ _ _ _ v.rd _ (putW v.wr ⟨key, true, [], true⟩) (t1 (one ‹_›) (one ‹_›).2.1 (putW_ok (one ‹_›).2.2.1 wE) ‹_›) (ne ‹_›))
    | exact Goal.leaf6 (step_set H hi 3 _ _ _ v.rd _ v.wr (t3 (one ‹_›)) (by decide))
    | exact Goal.leaf6 (hv ▸ step_done H hi (hv ▸ bne_false ‹_›) (hW hc_).1 (hW hc_).2.1 (hW hc_).2.2))
end Go.Den
end
section
namespace Go.Den
open Go
set_option linter.unusedVariables false
set_option linter.unusedSimpArgs false
def HouQ (t : Bool) (ls : List (List RD)) (c : Int) (t' : Bool) (xs : List (List RD)) : Prop := ∃ (l : List Ver) (x : List Tx), ls = l.map eVer ∧ xs = x.map eTx ∧ HouseP l c x
theorem HouseP.txb {l : List Ver} {c : Int} {x : List Tx} (h : HouseP l c x) : ∀ v ∈ x, TxB v := fun v hv => (txOk_b (h.txs.ok v hv)).2.2
theorem HouseP.tb {l : List Ver} {c : Int} {x : List Tx} (h : HouseP l c x) : ∀ v ∈ x, TB v := fun v hv => (h.txb v hv).tb
theorem HouseP.vrb {l : List Ver} {c : Int} {x : List Tx} (h : HouseP l c x) : l.length ≤ 60 ∧ VrB l := versions_rb h.vs
theorem house_step (t t' : Bool) {l : List Ver} {c : Int} {x : List Tx} (h : HouseP l c x) {m : Mv} (hm : RowB m.row) :
    P6 (fun bt ls c bt' xs r => HouQ bt ls c bt' xs) (fun k => S_spec_HouseStep t (l.map eVer) c t' (x.map eTx) m.kind m.who m.key m.t (m.row.map eV) k) := by
  have hrb : RB m.row := ⟨by have := hm.1; omega, fun v hv => by have := hm.2 v hv; unfold VB; omega⟩
  have hv := h.vrb
  simp only [S_spec_HouseStep, F_spec_HouseStep, spec_HouseOk_eq _ _ _ hv.2 _ _ h.tb, house_iff.2 h, cond_true, spec_l1In_eq, spec_RowOk_eq _ _ hrb]
  have h4 := h.four
  refine Goal.start ?_
  refine Goal.bind5 (copyH_ret t t' (by omega) (fun v hv' => (hv.2.2 v hv').1) c (by omega) h.txb) ?_
  rintro b1 y1 y2 b2 y4 ⟨rfl, rfl, rfl⟩
  have H := h.copy
  have keep : ∀ {b1 b2 : Bool} {r : Int}, HouQ b1 ((l.map clV).map eVer) y2 b2 ((x.map clT).map eTx) := ⟨_, _, rfl, rfl, H⟩
  refine Goal.cond (fun h1 => ?_) (fun _ => Goal.leaf6 (keep (r := 0)))
  refine Goal.cond (fun h2 => ?_) (fun _ => Goal.leaf6 (keep (r := 0)))
  refine Goal.cond (fun h3 => ?_) (fun _ => Goal.leaf6 (keep (r := 0)))
  have h1' := inB_iff.1 h1
  obtain ⟨i, hi⟩ : ∃ i : Nat, m.who = (i : Int) := ⟨m.who.toNat, by omega⟩
  rw [hi]
  have run : ∀ {bt bt' : Bool}, P6 StepQ (fun k => G_spec_HouseStep_j0 k t (l.map eVer) y2 t' (x.map eTx) m.kind (i : Int) m.key m.t (m.row.map eV) true 0 true [] [] bt y2 bt' ((l.map clV).map eVer) ((x.map clT).map eTx)) := fun {bt bt'} =>
    step_ret (a4 := true) (y := 0) (a8 := true) hv.2 (by omega) (fun v hv => by have := (txOk_b (h.txs.ok v hv)).2.1; omega) H m.kind (by simp; omega) h2 h3 (e1 := []) (e2 := [])
  have go : ∀ {bt bt' : Bool}, Goal (P6 fun bt ls c bt' xs (r : Int) => HouQ bt ls c bt' xs) (fun k => G_spec_HouseStep_j0 (fun a b c d e f => k b e c d f a) t (l.map eVer) y2 t' (x.map eTx) m.kind (i : Int) m.key m.t (m.row.map eV) true 0 true [] [] bt y2 bt' ((l.map clV).map eVer) ((x.map clT).map eTx)) := by
    intro bt bt'
    refine Goal.bind6 run ?_
    rintro r b c d e f ⟨l', x', rfl, rfl, g⟩
    exact Goal.leaf6 ⟨l', x', rfl, rfl, g⟩
  repeat' (first
    | (with_reducible refine Goal.cond (fun _ => ?_) (fun _ => ?_))
    | exact Goal.leaf6 (keep (r := 0))
    | exact go)
theorem run_loop {vt : Bool} {ms : List Mv} (hms : ms.length ≤ 1000) (hm : ∀ m ∈ ms, RowB m.row) {a1 a3 : Bool} {a2 : Int} {e1 e2 : List (List RD)} : ∀ (m n i : Nat) {t t' : Bool} {l : List Ver} {c : Int} {x : List Tx}, i + m = ms.length → m < n → HouseP l c x →
    P10 (fun _ _ _ _ _ bt c bt' ls xs => HouQ bt ls c bt' xs) (fun k => L_spec_HouseRun_0 S_spec_HouseStep k vt (ms.map eMv) a1 a2 a3 e1 e2 n (i : Int) t c t' (l.map eVer) (x.map eTx))
  | 0, n + 1, i, t, t', l, c, x, h1, h2, h3 => by
    simp only [L_spec_HouseRun_0, B_spec_HouseRun_0, List.length_map]
    rw [decide_eq_false (by omega)]
    exact Goal.leaf10 ⟨l, x, rfl, rfl, h3⟩
  | m + 1, n + 1, i, t, t', l, c, x, h1, h2, h3 => by
    have hi : i < ms.length := by omega
    simp only [L_spec_HouseRun_0, B_spec_HouseRun_0, List.length_map, at_iiil_mapM]
    rw [decide_eq_true (by omega), List.getElem?_eq_getElem hi]
    simp only [cond_true, Option.bind_some]
    refine Goal.start ?_
    refine Goal.bind6 (house_step t t' h3 (hm _ (List.getElem_mem hi))) ?_
    rintro b1 ls c' b2 xs r ⟨l', x', rfl, rfl, g⟩
    rw [w64_succ (by omega)]
    exact run_loop hms hm m n (i + 1) (by omega) (by omega) g
theorem run_ret (t t' vt : Bool) {l : List Ver} {c : Int} {x : List Tx} (h : HouseP l c x) {ms : List Mv} (hms : ms.length ≤ 1000) (hm : ∀ m ∈ ms, RowB m.row) :
    P5 HouQ (fun k => S_spec_HouseRun t (l.map eVer) c t' (x.map eTx) vt (ms.map eMv) k) := by
  have hv := h.vrb
  have h4 := h.four
  simp only [S_spec_HouseRun, F_spec_HouseRun, G_spec_HouseRun_0, spec_HouseOk_eq _ _ _ hv.2 _ _ h.tb, house_iff.2 h, cond_true]
  refine Goal.start ?_
  refine Goal.bind5 (copyH_ret t t' (by omega) (fun v hv' => (hv.2.2 v hv').1) c (by omega) h.txb) ?_
  rintro b1 y1 y2 b2 y4 ⟨rfl, rfl, rfl⟩
  have := run_loop (vt := vt) (a1 := true) (a2 := 0) (a3 := true) (e1 := []) (e2 := []) hms hm ms.length fuel 0 (t := b1) (t' := b2) (by omega) (fuel_lt (by omega)) h.copy
  refine Goal.bind10 this ?_
  rintro _ _ _ _ _ bt c bt' ls xs ⟨l', x', rfl, rfl, g⟩
  exact Goal.leaf5 ⟨l', x', rfl, rfl, g⟩
def tx0 : Tx := ⟨0, 0, 0, true, [], true, []⟩
theorem house0 : HouseP [] 0 [tx0, tx0, tx0, tx0] := house_iff.1 (by decide)
structure DrawQ (t : Bool) (ls : List (List RD)) (c : Int) (t' : Bool) (xs : List (List RD)) : Prop where
  out : ∃ (l : List Ver) (x : List Tx), ls = l.map eVer ∧ xs = x.map eTx ∧ VrB l ∧ ∀ v ∈ x, TB v
theorem draw_keep {l : List Ver} {c c' : Int} {x : List Tx} (h : HouseP l c x) {t t' : Bool} : DrawQ t (l.map eVer) c' t' (x.map eTx) := ⟨l, x, rfl, rfl, h.vrb.2, h.tb⟩
theorem draw_set {l : List Ver} {c c' : Int} {x : List Tx} (h : HouseP l c x) {t t' : Bool} {i : Nat} {e : List RD} {n : Tx} (he : e = eTx n) (hn : TB n) : DrawQ t (l.map eVer) c' t' ((x.map eTx).set i e) := by
  subst he
  refine ⟨l, x.set i n, rfl, by rw [List.map_set], h.vrb.2, fun v hv => ?_⟩
  rcases List.mem_or_eq_of_mem_set hv with hv | rfl
  · exact h.tb v hv
  · exact hn
theorem house_draw {B : Int} {t : Bool} {els : List (List RD)} {p : Int} (h : RdI B t els p) (n : Int) (hB : B ≤ 100) (k : Bool → List (List RD) → Int → Bool → List (List RD) → Option FR) :
    ∃ y0 y1 y2 y3 y4, DrawQ y0 y1 y2 y3 y4 ∧ ∀ k : Bool → List (List RD) → Int → Bool → List (List RD) → Option FR,
      S_spec_l20House t els p n (fun _ _ _ a b c d e => k a b c d e) (fun _ _ _ a b c d e => k a b c d e) = k y0 y1 y2 y3 y4 := by
  suffices P5 DrawQ (fun k => S_spec_l20House t els p n (fun _ _ _ a b c d e => k a b c d e) (fun _ _ _ a b c d e => k a b c d e)) from this
  simp only [S_spec_l20House, F_spec_l20House, S_spec_HouseNew, F_spec_HouseNew]
  refine Goal.start ?_
  refine Goal.bind5 (moves_ret h 0 (by omega)) ?_
  rintro t1 e1 p1 mt mr ⟨h1, ⟨ms, rfl, hms, hmb⟩⟩
  refine Goal.bind5 (run_ret true true mt house0 (ms := ms) (by omega) hmb) ?_
  rintro t2 ls c t3 xs ⟨l, x, rfl, rfl, H⟩
  have h4 := H.four
  refine Goal.bind4 (odd_ret h1 _ (by omega)) ?_
  rintro t4 e4 p4 r4 h2
  refine Goal.cond (fun _ => ?_) (fun _ => Goal.leaf5 (draw_keep H))
  refine Goal.bind4 (pick_ret h2 _ (by omega)) ?_
  rintro t5 e5 p5 r5 ⟨h3, _⟩
  have tb : ∀ i (hi : i < x.length), TB x[i] := fun i hi => H.tb _ (List.getElem_mem hi)
  have four : ∀ r : Int, 0 ≤ r ∧ r < 4 → ∃ i : Nat, r = (i : Int) ∧ i < x.length := fun r hr => ⟨r.toNat, by omega, by omega⟩
  refine Goal.cond (fun _ => ?_) (fun _ => ?_)
  · refine Goal.bind4 (pick_ret h3 _ (by omega)) ?_
    rintro _ _ _ _ ⟨_, _⟩
    exact Goal.leaf5 (draw_keep H)
  refine Goal.cond (fun _ => ?_) (fun _ => ?_)
  · refine Goal.bind4 (pick_ret h3 _ (by omega)) ?_
    rintro _ _ _ r ⟨g1, g2⟩
    obtain ⟨i, rfl, hi⟩ := four r (g2 (by omega))
    refine Goal.bind4 (pick_ret g1 _ (by omega)) ?_
    rintro _ _ _ q ⟨g3, g4⟩
    refine Goal.req (by unfold idxOk; simp; omega) ?_
    simp only [Int.toNat_natCast, put_tx hi (show 0 + 1 ≤ 5 by omega)]
    exact Goal.leaf5 (draw_set H (n := { x[i] with st := w64 (q - 1) }) rfl ⟨(tb i hi).rd, (tb i hi).wr⟩)
  refine Goal.cond (fun _ => ?_) (fun _ => ?_)
  · refine Goal.bind4 (pick_ret h3 _ (by omega)) ?_
    rintro _ _ _ r ⟨g1, g2⟩
    obtain ⟨i, rfl, hi⟩ := four r (g2 (by omega))
    refine Goal.bind4 (pick_ret g1 _ (by omega)) ?_
    rintro _ _ _ q ⟨g3, g4⟩
    refine Goal.req (by unfold idxOk; simp; omega) ?_
    simp only [Int.toNat_natCast, put_tx hi (show 2 + 1 ≤ 5 by omega)]
    exact Goal.leaf5 (draw_set H (n := { x[i] with en := q }) rfl ⟨(tb i hi).rd, (tb i hi).wr⟩)
  refine Goal.cond (fun _ => ?_) (fun _ => ?_)
  · refine Goal.bind4 (pick_ret h3 _ (by omega)) ?_
    rintro _ _ _ r ⟨g1, g2⟩
    obtain ⟨i, rfl, hi⟩ := four r (g2 (by omega))
    refine Goal.req (by unfold slcOk; simp; omega) ?_
    refine Goal.cond (fun _ => ?_) (fun _ => ?_)
    · exact Goal.leaf5 (draw_keep H)
    · refine Goal.leaf5 ⟨l, x.take i, rfl, by simp [List.map_take], H.vrb.2, fun v hv => H.tb v (List.mem_of_mem_take hv)⟩
  have h0 : 0 < x.length := by omega
  refine Goal.req (by unfold idxOk; simp; omega) ?_
  simp only [put_tx h0 (show 3 + 1 ≤ 5 by omega)]
  exact Goal.leaf5 (draw_set H (n := { x[0] with rt := true, rd := [2, 1] }) rfl ⟨by simp, (tb 0 h0).wr⟩)
theorem draw_ret (t : Bool) (b : List UInt8) : P5 DrawQ (fun k => S_spec_DrawRowsNow t (b.map eB) k) := by
  simp only [S_spec_DrawRowsNow, F_spec_DrawRowsNow]
  refine Goal.start ?_
  refine Goal.bind3 (open_ret t b) ?_
  rintro t1 e p h
  obtain ⟨y0, y1, y2, y3, y4, hq, e⟩ := house_draw h 9 (by omega) (fun _ _ _ _ _ => none)
  exact ⟨y0, y1, y2, y3, y4, hq, e⟩
theorem FnRowsNow_true (t : Bool) (b : List UInt8) (k : Bool → Option FR) : S_laws_FnRowsNow t (b.map eB) k = k true := by
  obtain ⟨y0, y1, y2, y3, y4, ⟨l, x, rfl, rfl, hl, hx⟩, e⟩ := draw_ret t b
  exact law_behind y0 y3 l hl y2 x hx S_spec_DrawRowsNow t _ e k
end Go.Den
end
