/- laws.FnRowsNow returns true, whatever its argument, and its argument reads behind the call as it read before. No conditions. -/
import Derived.Test.YtgpckcnoinifiaaPla
import Derived.Test.YtgpckcnoinifiaaRpb
import Derived.Test.YtgpckcnoinifiaaRows
import Derived.WalkKit
import Derived.ProofKit
import Derived.OpenShut
import Derived.ShutString
import Derived.ChangeOld
import Derived.Below
import Derived.SizedLaws
section
namespace Go.Den
open Go Go.RowKit
set_option linter.unusedVariables false
def IsRow (w : World) (a : Option Addr) (len cap : Nat) (zs : List Int) : Prop :=
  (a = none ∧ len = 0 ∧ cap = 0 ∧ zs = []) ∨
  ∃ x, a = some x ∧ len ≤ cap ∧ zs.length = cap ∧ (∀ i, i < zs.length → w.cell? (x.add i) = some (.int .u8 (zs.getD i 0))) ∧ ∀ n ∈ zs, (Lit.int .u8 n).wf = true
theorem cell_spot {w : World} {x : Addr} {v : Value} (h : w.cell? x = some v) : x.spot = none := by
  unfold World.cell? at h
  split at h
  · split at h
    · cases h
    · rename_i hs; cases hx : x.spot with
      | none => rfl
      | some y => rw [hx] at hs; exact (hs rfl).elim
  · cases h
theorem cell_lt {w : World} {x : Addr} {v : Value} (h : w.cell? x = some v) : x.block < w.heap.size := by
  unfold World.cell? at h
  split at h
  · rename_i hb; exact (Array.getElem?_eq_some_iff.1 hb).1
  · cases h
theorem rowB_RE {w : World} {b : Nat} : ∀ (l : List UInt8) (o : Nat), (∀ i (hi : i < l.length), w.cell? ⟨b, o + i, none⟩ = some (.int .u8 (l[i]).toNat)) → RE w b o 1 (l.map eB) []
  | [], o, _ => by simp only [List.map_nil, RE]
  | x :: r, o, h => by
    simp only [List.map_cons, RE]
    refine ⟨[], [], rfl, ?_, rowB_RE r (o + 1) (fun i hi => ?_), rfl⟩
    · simp only [eB, RL]
      exact ⟨_, [], [], h 0 (by simp), by simp [RR, scal], rfl, rfl⟩
    · have := h (i + 1) (by simpa using hi)
      rw [show o + 1 + i = o + (i + 1) by omega]
      simpa using this
theorem wf_byte {n : Int} (h : (Lit.int .u8 n).wf = true) : ((UInt8.ofNat n.toNat).toNat : Int) = n := by
  unfold Lit.wf at h
  rw [Bool.and_eq_true, decide_eq_true_eq, decide_eq_true_eq] at h
  have e1 : IntKind.u8.min = 0 := rfl
  have e2 : IntKind.u8.max = 255 := rfl
  rw [e1, e2] at h
  rw [UInt8.toNat_ofNat']
  omega
theorem row_RR {w : World} {a : Option Addr} {len cap : Nat} {zs : List Int} (h : IsRow w a len cap zs) :
    ∃ (l : List UInt8) (fs : List Nat), RR w (.sl false (l.map eB)) (.slice a len cap) fs ∧ ∀ b ∈ fs, b < w.heap.size := by
  rcases h with ⟨rfl, rfl, rfl, rfl⟩ | ⟨x, rfl, h1, h2, h3, h4⟩
  · exact ⟨[], [], by simp only [RR]; exact ⟨none, 0, rfl, Nat.le_refl _, fun h => (by cases h), .inl (by simp)⟩, fun b hb => (by cases hb)⟩
  · refine ⟨(zs.take len).map fun n => UInt8.ofNat n.toNat, ?_⟩
    have hl : ((zs.take len).map fun n => UInt8.ofNat n.toNat).length = len := by simp; omega
    cases len with
    | zero =>
      refine ⟨[], ?_, fun b hb => (by cases hb)⟩
      simp only [List.take_zero, List.map_nil, RR]
      exact ⟨some x, cap, rfl, Nat.zero_le _, fun h => (by cases h), .inl (by simp)⟩
    | succ len =>
      have h0 := h3 0 (by omega)
      have hs : x.spot = none := cell_spot h0
      refine ⟨[x.block], ?_, fun b hb => by simp at hb; subst hb; exact cell_lt h0⟩
      simp only [RR]
      refine ⟨some x, cap, by rw [List.length_map, hl], by rw [List.length_map, hl]; exact h1, fun h => (by cases h), .inr ⟨x.block, x.off, 1, [], ?_, ?_, rfl, rowB_RE _ _ fun i hi => ?_⟩⟩
      · obtain ⟨b, o, s⟩ := x
        simp at hs; subst hs; rfl
      · intro e
        have := congrArg List.length e
        rw [List.length_map, hl] at this
        cases this
      · have hi' : i < len + 1 := by omega
        have g := h3 i (by omega)
        have e : x.add i = ⟨x.block, x.off + i, none⟩ := by
          unfold Addr.add
          split
          · rename_i h; subst h
            obtain ⟨b, o, s⟩ := x
            simp at hs; subst hs; rfl
          · rfl
        rw [e] at g
        rw [g]
        simp only [List.getElem_map, List.getElem_take]
        have hz : i < zs.length := by omega
        rw [List.getD_eq_getElem?_getD, List.getElem?_eq_getElem hz, Option.getD_some, wf_byte (h4 _ (List.getElem_mem hz))]
theorem law_calls {P : Program} {f : Nat} {S : SmC} (hG : Good P f S) (hS : ∀ (b : List UInt8) K, S [.ro (.sl false (b.map eB))] K = K [] (.ro (.lit (.bool true)))) {w : World} {a : Option Addr} {len cap : Nat} {zs : List Int}
    (h : IsRow w a len cap zs) :
    Calls P f #[.slice a len cap] w fun e w' => e = .returned (.bool true) ∧ Below w.heap.size w w' := by
  obtain ⟨F, _, hF, hL⟩ := hG
  obtain ⟨l, fs, hR, hb⟩ := row_RR h
  obtain ⟨m, d, e1, e2⟩ := hL [.ro (.sl false (l.map eB))] (fun m d => some (m, d)) _ (hS l _)
  simp only [Option.some.injEq, Prod.mk.injEq] at e2
  obtain ⟨rfl, rfl⟩ := e2
  have hp : Pre w [.ro (.sl false (l.map eB))] [.slice a len cap] [] [] fs (fun _ => False) := by
    refine ⟨?_, List.nodup_nil, fun b hb => (by cases hb), List.nodup_nil, fun b hb' => ?_, fun b hb => hb.elim⟩
    · simp only [Ds, D1, DC]
      exact ⟨_, [], [], [], [], [], fs, [], rfl, ⟨rfl, rfl, hR⟩, ⟨rfl, rfl, rfl, rfl⟩, rfl, rfl, by simp⟩
    · exact ⟨⟨hb b (by simpa using hb'), fun h => h⟩, by simp⟩
  refine (hF _ _ _ e1 w #[.slice a len cap] [] [] fs _ hp).mono fun e w' => ?_
  rintro ⟨u, rfl, rM, cM, fM, rR, cR, fR, hpost⟩
  have hr := hpost.r
  simp only [DR, D1, DC, RR] at hr
  obtain ⟨_, _, rfl, _⟩ := hr
  exact ⟨rfl, ⟨hpost.fram.os, hpost.fram.tape, hpost.fram.output, hpost.fram.size, fun k hk => hpost.fram.block k hk (by simp)⟩⟩
end Go.Den
end
section
namespace Go.Proofs.Ytgpckcnoinifiaa.fnRowsNow
open Go.ChangeShapes Go.WideShapes Go.ChangeAt Go.RowKit Go.Den
set_option linter.unusedVariables false
theorem own : ownKnob Try.prog.godebug = none := by kernel_rfl
theorem laidOut : laidOutB Try.prog = true := by kernel_rfl
theorem walk {w : World} {a : Option Addr} {len cap : Nat} {zs : List Int} (h : IsRow w a len cap zs) :
    Calls Try.prog 3 #[.slice a len cap] w fun e w' => e = .returned (.bool true) ∧ Below w.heap.size w w' :=
  law_calls good_laws_FnRowsNow (fun b K => FnRowsNow_true false b fun r => K [] (.ro (.lit (.bool r)))) h
set_option maxRecDepth 100000 in
theorem lifted (os : Os) (started : os.Started) (H : Type) (enc : TypeId × Value → H) :
    ReturnsInHanded {} Try.checked os 3 .any (Rows.fnRowsNowSpec.pre6 enc Try.prog Try.f3 Rows.fnRowsNowRow.domain false) (Rows.fnRowsNowSpec.post enc Try.prog Try.f3 false true false false) := by
  refine returnsInHanded_of_change_sized (C := Try.checked) own started (by kernel_rfl) Try.func3
    (ChangeSpec.witness6 (enc := enc) (C := Try.checked) false ⟨#[], #[.slice none 0 0], []⟩ 8 (by kernel_rfl) (by kernel_rfl) (by kernel_rfl) (by kernel_rfl)) ?_
  intro W base args ds gs before hval0 hW hcnd hsz0 _
  have hval : ∀ (j : Nat) t v, Try.f3.params[j]? = some t → args[j]? = some v → Value.okWide Try.prog W .any base t v := hval0
  have hW' := hW
  obtain ⟨p, q, hA0, hV, rfl, hfz, hnd⟩ := hW
  have hA : DataW.TrodAll enc Try.prog W 0 (fun _ => true) true Try.f3.params.toList args.toList ds p := hA0
  rw [Try.params3] at hA hval
  obtain ⟨v0, vs0, d0, ds0, p0, q0, hargs, rfl, rfl, h0, r0⟩ := trodAll_cons hA
  obtain ⟨rfl, rfl, rfl⟩ := trodAll_nil r0
  obtain rfl : args = #[v0] := by cases args; simp_all
  obtain ⟨rfl, rfl⟩ := trodVars_none hV
  obtain ⟨a0, len0, cap0, rfl⟩ := okWide_slice Try.underlying22 (hval 0 22 v0 rfl rfl)
  have k0 := h0
  have lt0 : ∀ x ∈ p0, x.block < W.heap.size := by obtain ⟨m, hm⟩ := k0; exact DataW.trod_lt m _ _ _ hm
  obtain ⟨z0, w0⟩ : ∃ zs, IsRow W a0 len0 cap0 zs := by
    obtain ⟨fuel, hf⟩ := h0
    rcases open_ints Try.underlying22 Try.underlying5 (by kernel_rfl) hf with ⟨hcs, _⟩ | ⟨x, l, c, zs, hcs, hb, hl, hm, hz, _, hcell, hwz⟩
    · simp [Value.cells] at hcs
      obtain ⟨rfl, rfl, rfl⟩ := hcs
      exact ⟨[], .inl ⟨rfl, rfl, rfl, rfl⟩⟩
    · simp [Value.cells] at hcs
      obtain ⟨rfl, rfl, rfl⟩ := hcs
      exact ⟨zs, .inr ⟨_, rfl, hl, by simpa using hz, hcell, hwz⟩⟩
  clear hA0 hval0 hsz0
  refine (walk w0).mono fun e W' ⟨he, bel⟩ => ?_
  subst he
  exact ⟨_, rfl, _, _, _, [], _, [], hW', trodAll_mk1 (shut_bool Try.underlying4 _), (trodAll_cons_mk (Below.trod laidOut (by kernel_rfl) (of_decide_eq_true (by kernel_rfl)) k0 bel lt0) trodAll_mk0), rfl, bel.frame _, fun h => by cases h⟩
theorem over : Rows.fnRowsNowRow.holds Try.pinned (OpenSpec.ofChange Rows.fnRowsNowSpec) :=
  OpenClaim.holds_of_wide 3 Try.f3 rfl rfl rfl rfl rfl rfl rfl ⟨rfl, rfl, rfl, rfl, rfl⟩ rfl rfl rfl rfl rfl (by kernel_rfl) Try.func3 (by kernel_rfl)
    (of_decide_eq_true (by kernel_rfl)) (by unfold Func.isWrapper; first | (rw [if_pos (by decide +kernel)]; kernel_rfl) | (rw [if_neg (by decide +kernel)]; exact ⟨rfl, rfl⟩))
    (fun os started H enc _ => lifted os started H enc)
theorem proved : Rows.FnRowsNowSaid := over
end Go.Proofs.Ytgpckcnoinifiaa.fnRowsNow
namespace Go.Proofs.Ytgpckcnoinifiaa
theorem fnRowsNow_holds : Rows.FnRowsNowSaid := fnRowsNow.proved
end Go.Proofs.Ytgpckcnoinifiaa
end
