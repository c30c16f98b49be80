/- FnExactQuotientOfCover of the given program answers true for every argument, and leaves it as it was: no condition. -/
import Derived.Test.YtjmglannhkfbmaaRows
import Derived.Test.YtjmglannhkfbmaaC5
import Derived.Test.YtjmglannhkfbmaaCP
import Derived.WalkKit
import Derived.ProofKit
import Derived.OpenShut
import Derived.ShutString
import Derived.ChangeOld
import Derived.Below
import Derived.SizedLaws
import Derived.Deep.Matrix
import Derived.Deep.Strs
namespace Go.Proofs.Ytjmglannhkfbmaa.fnExactQuotientOfCover
open Go.ChangeShapes Go.WideShapes Go.ChangeAt Go.RowKit Go.Deep Go.Proofs.YtjmglannhkfbmaaW.PrintWords Go.Proofs.Ytjmglannhkfbmaa.PQuot
set_option linter.unusedVariables false
theorem own : ownKnob Try.prog.godebug = none := by kernel_rfl
theorem laidOut : laidOutB Try.prog = true := by kernel_rfl
/-- A slice of slices of whole numbers that came in, as rows. -/
theorem came_rows {H : Type} {enc : TypeId × Value → H} {W : World} {fuel : Nat} {v : Value} {x : DataW H × List MemPlace} (h : DataW.trod enc Try.prog W 0 (fun _ => true) true fuel 22 [v] = some x) :
    ∃ (A : Option Addr) (c : Nat) (l : List (List Int)), v = .slice A l.length c ∧ l.length ≤ c ∧ Kd.C (Kd.slice 2 (Kd.int .i64)) W A l.length l ∧ l.length ≤ 9223372036854775807 ∧ ∀ y ∈ l, y.length ≤ 9223372036854775807 := by
  rcases open_int_rows Try.underlying22 Try.underlying26 Try.underlying2 (by kernel_rfl) (by kernel_rfl) h with ⟨h1, -⟩ | ⟨a, len, cap, A, L, C, Z, h1, -, hl, hm, -, hr⟩
  · refine ⟨none, 0, [], by simpa using h1, Nat.le_refl _, ⟨rfl, Nat.zero_le _, fun h => absurd h (Nat.lt_irrefl _)⟩, Nat.zero_le _, fun y hy => by cases hy⟩
  · unfold maxLen at hm
    have hlen : ((List.range len).map fun r => (Z r).take (L r)).length = len := by rw [List.length_map, List.length_range]
    have hrow : ∀ r, r < len → ((Z r).take (L r)).length = L r ∧ L r ≤ C r ∧ C r ≤ 9223372036854775807 := fun r hlt => by
      obtain ⟨-, g1, g2, g3, -⟩ := hr r (by omega)
      unfold maxLen at g2
      exact ⟨by rw [List.length_take]; omega, g1, by omega⟩
    refine ⟨some a, cap, (List.range len).map fun r => (Z r).take (L r), by rw [hlen]; simpa using h1, by rw [hlen]; exact hl, ⟨rfl, by rw [hlen]; omega, fun _ => ⟨a, rfl, fun j p hp => ?_⟩⟩, by rw [hlen]; omega, fun y hy => ?_⟩
    · have hj : j < len := by
        have := (List.getElem?_eq_some_iff.mp hp).1
        rwa [hlen] at this
      rw [List.getElem?_map, List.getElem?_range hj] at hp
      obtain rfl : (Z j).take (L j) = p := Option.some.inj hp
      obtain ⟨hc, g1, g2, g3, -, gn, ga⟩ := hr j (by omega)
      obtain ⟨k1, k2, k3⟩ := hrow j hj
      refine ⟨[.slice (A j) (L j) (C j)], rfl, ⟨A j, C j, by rw [k1], by rw [k1]; exact g1, ?_⟩, ?_⟩
      · refine Kd.C_of_reads (d := (0 : Int)) (h1 := fun _ => rfl) ⟨rfl, by rw [k1]; omega, fun h0 => ?_⟩
        rw [k1] at h0
        rcases ha : A j with _ | a'
        · have := gn ha; omega
        · refine ⟨a', rfl, fun i hi => ?_⟩
          rw [k1] at hi
          rw [(ga a' ha).2 i (by omega)]
          congr 2
          rw [List.getD_eq_getElem?_getD, List.getD_eq_getElem?_getD, List.getElem?_take, if_pos hi]
      · intro i u hu
        have : i = 0 := by
          have := (List.getElem?_eq_some_iff.mp hu).1
          simp at this; exact this
        subst this
        obtain rfl : Value.slice (A j) (L j) (C j) = u := Option.some.inj hu
        show W.cell? (a.add (j * 1 + 0)) = _
        rw [Nat.mul_one, Nat.add_zero]; exact hc
    · obtain ⟨r, hlt, rfl⟩ := List.mem_map.mp hy
      have := hrow r (List.mem_range.mp hlt)
      omega
theorem four {α : Type} : ∀ (l : List α), l.length = 4 → ∃ a b c d, l = [a, b, c, d]
  | [a, b, c, d], _ => ⟨a, b, c, d, rfl⟩
theorem walk {H : Type} {enc : TypeId × Value → H} {W : World} {v : Value} {d : DataW H} {p : List MemPlace} (hok : ∃ cs, v = .agg cs ∧ cs.size = Try.prog.cellsOf 44) (h : DataW.Trod enc Try.prog W 0 (fun _ => true) true 44 v d p) :
    Calls Try.prog 7 #[v] W fun e w' => e = .returned (.bool true) ∧ Below W.heap.size W w' := by
  obtain ⟨cs, rfl, hs⟩ := hok
  obtain ⟨fuel, hf⟩ := h
  obtain ⟨y0, y1, y2, n, -, hl, h0, h1, h2⟩ := trod_struct3 Try.underlying44 hf
  have e44 : Try.prog.cellsOf 44 = 4 := by kernel_rfl
  have e24 : Try.prog.cellsOf 24 = 2 := by kernel_rfl
  have e22 : Try.prog.cellsOf 22 = 1 := by kernel_rfl
  have e2 : Try.prog.cellsOf 2 = 1 := by kernel_rfl
  rw [e44] at hs
  obtain ⟨c0, c1, c2, c3, rfl⟩ : ∃ c0 c1 c2 c3, cs = #[c0, c1, c2, c3] := by
    obtain ⟨c0, c1, c2, c3, h⟩ := four cs.toList (by rw [Array.length_toList]; exact hs)
    exact ⟨c0, c1, c2, c3, by rw [← h]⟩
  simp only [Value.cells, e24, e2, e22] at h0 h1 h2
  have h0' : DataW.trod enc Try.prog W 0 (fun _ => true) true n 24 [c0, c1] = some y0 := h0
  have h1' : DataW.trod enc Try.prog W 0 (fun _ => true) true n 2 [c2] = some y1 := h1
  have h2' : DataW.trod enc Try.prog W 0 (fun _ => true) true n 22 [c3] = some y2 := h2
  obtain ⟨z0, z1, n', -, -, g0, g1⟩ := trod_struct2 Try.underlying24 h0'
  simp only [e2, e22] at g0 g1
  have g0' : DataW.trod enc Try.prog W 0 (fun _ => true) true n' 2 [c0] = some z0 := g0
  have g1' : DataW.trod enc Try.prog W 0 (fun _ => true) true n' 22 [c1] = some z1 := g1
  obtain ⟨a0, rfl⟩ : ∃ a0, c0 = .int .i64 a0 := by
    obtain ⟨m, hm, -⟩ := DataW.trod_int Try.underlying2 g0'
    exact ⟨m, by simpa using hm⟩
  obtain ⟨a2, rfl⟩ : ∃ a2, c2 = .int .i64 a2 := by
    obtain ⟨m, hm, -⟩ := DataW.trod_int Try.underlying2 h1'
    exact ⟨m, by simpa using hm⟩
  obtain ⟨A1, k1, l1, rfl, hc1, hr1, hm1, hx1⟩ := came_rows g1'
  obtain ⟨A3, k3, l3, rfl, hc3, hr3, hm3, hx3⟩ := came_rows h2'
  obtain ⟨k, s, hs, hs0 | ⟨hs0, r1, r2, j0, j1, d1, d3, m, g', q1, q2, q3, q4, q5, q6, q7, q8, q9, q10, q11⟩⟩ := quot_law a0 a2 l1 l3 hm1 hx1 hm3 hx3
  · exact laws_FnExactQuotientOfCover.early k a0 A1 k1 l1 a2 A3 k3 l3 W hr1 hc1 hr3 hc3 s hs hs0
  · exact laws_FnExactQuotientOfCover.late k a0 A1 k1 l1 a2 A3 k3 l3 W hr1 hc1 hr3 hc3 s hs hs0 a0 l1 a2 l3 r1 r2 j0 j1 d1 d3 m g' q1 q2 q3 q4 q5 q6 q7 q8 q9 q10 q11
set_option maxRecDepth 100000 in
theorem lifted (os : Os) (started : os.Started) (H : Type) (enc : TypeId × Value → H) :
    ReturnsInHanded {} Try.checked os 7 .any (Rows.fnExactQuotientOfCoverSpec.pre6 enc Try.prog Try.f7 Rows.fnExactQuotientOfCoverRow.domain false) (Rows.fnExactQuotientOfCoverSpec.post enc Try.prog Try.f7 false true false false) := by
  refine returnsInHanded_of_change_sized (C := Try.checked) own started (by kernel_rfl) Try.func7
    (ChangeSpec.witness6 (enc := enc) (C := Try.checked) false ⟨#[], #[.agg #[.int .i64 0, .slice none 0 0, .int .i64 0, .slice none 0 0]], []⟩ 8 (by kernel_rfl) (by kernel_rfl) (by kernel_rfl) (by kernel_rfl)) ?_
  intro W base args ds gs before hval0 hW hcnd hsz0 _
  have hval : ∀ (j : Nat) t v, Try.f7.params[j]? = some t → args[j]? = some v → Value.okWide Try.prog W .any base t v := hval0
  have hW' := hW
  obtain ⟨p, q, hA0, hV, rfl, hfz, hnd⟩ := hW
  have hA : DataW.TrodAll enc Try.prog W 0 (fun _ => true) true Try.f7.params.toList args.toList ds p := hA0
  rw [Try.params7] at hA hval
  obtain ⟨v0, vs0, d0, ds0, p0, q0, hargs, rfl, rfl, h0, r0⟩ := trodAll_cons hA
  obtain ⟨rfl, rfl, rfl⟩ := trodAll_nil r0
  obtain rfl : args = #[v0] := by cases args; simp_all
  obtain ⟨rfl, rfl⟩ := trodVars_none hV
  have hok := okWide_struct Try.underlying44 (hval 0 44 v0 rfl rfl)
  have lt0 : ∀ x ∈ p0, x.block < W.heap.size := by obtain ⟨m, hm⟩ := h0; exact DataW.trod_lt m _ _ _ hm
  have k0 := h0
  clear hA0 hval0 hsz0
  refine (walk hok h0).mono fun e W' ⟨he, bel⟩ => ?_
  subst he
  exact ⟨_, rfl, _, _, _, [], _, [], hW', trodAll_mk1 (shut_bool Try.underlying4 _), (trodAll_cons_mk (Below.trod laidOut (by kernel_rfl) (of_decide_eq_true (by kernel_rfl)) k0 bel lt0) trodAll_mk0), rfl, bel.frame _, fun h => by cases h⟩
theorem and_mk {a b : Bool} (ha : a = true) (hb : b = true) : (a && b) = true := by rw [ha, hb]; rfl
theorem c_inPlace : (Rows.fnExactQuotientOfCoverRow.inPlace == Try.prog.inPlace 7) = true := by kernel_rfl
theorem c_unfollowed : (Rows.fnExactQuotientOfCoverRow.unfollowed == Try.prog.unfollowed 7) = true := by kernel_rfl
theorem c_recurses : (Rows.fnExactQuotientOfCoverRow.recurses == Try.prog.recurses 7) = true := by kernel_rfl
theorem c_named : (Rows.fnExactQuotientOfCoverRow.named == Try.prog.varsNamed 7) = true := by kernel_rfl
theorem closed : joinedFacts Try.prog 7 Try.f7 Rows.fnExactQuotientOfCoverSpec Rows.fnExactQuotientOfCoverRow = true := by
  unfold joinedFacts
  repeat' with_reducible refine and_mk ?_ ?_
  all_goals first | with_reducible exact c_inPlace | with_reducible exact c_unfollowed | with_reducible exact c_recurses | with_reducible exact c_named | kernel_rfl
theorem over : Rows.fnExactQuotientOfCoverRow.holds Try.pinned (OpenSpec.ofChange Rows.fnExactQuotientOfCoverSpec) :=
  OpenClaim.holds_of_wide 7 Try.f7 rfl rfl rfl rfl rfl rfl rfl ⟨rfl, rfl, rfl, rfl, rfl⟩ rfl rfl rfl rfl rfl (by kernel_rfl) Try.func7 closed
    (of_decide_eq_true (by kernel_rfl)) (by unfold Func.isWrapper; first | (rw [if_pos (by decide +kernel)]; kernel_rfl) | (rw [if_neg (by decide +kernel)]; exact ⟨rfl, rfl⟩))
    (fun os started H enc _ => lifted os started H enc)
theorem proved : Rows.FnExactQuotientOfCoverSaid := over
#print axioms proved
end Go.Proofs.Ytjmglannhkfbmaa.fnExactQuotientOfCover
namespace Go.Proofs.Ytjmglannhkfbmaa
/-- The row, under a short name, for the claim. -/
theorem fnExactQuotientOfCover_holds : Rows.FnExactQuotientOfCoverSaid := fnExactQuotientOfCover.proved
end Go.Proofs.Ytjmglannhkfbmaa
