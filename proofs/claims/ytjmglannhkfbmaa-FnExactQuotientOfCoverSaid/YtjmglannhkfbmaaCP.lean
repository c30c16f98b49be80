/- What the program's functions answer, over numbers and lists alone. -/
import Derived.Test.YtjmglannhkfbmaaC1
import Derived.Test.YtjmglannhkfbmaaC2
import Derived.Test.YtjmglannhkfbmaaC4
import Derived.Test.YtjmglannhkfbmaaC5
import Derived.Test.YtjmglannhkfbmaaC3
import Derived.Test.YtjmglannhkfbmaaCL
namespace Go.Proofs.Ytjmglannhkfbmaa.PQuot
open Go.RowKit Go.Proofs.YtjmglannhkfbmaaW.PrintWords
set_option linter.unusedVariables false
-- the small laws' functions over numbers (no overflow: lengths up to 2^40)
theorem w64 {x : Int} (h0 : -9223372036854775808 ≤ x) (h1 : x ≤ 9223372036854775807) : wrap64 x = x := by unfold wrap64; omega
theorem eqI_loop (l : List Int) (hl : l.length ≤ 1099511627776) : ∀ (d k i : Nat), l.length - i = d → i ≤ l.length → d < k → laws_eqInt64S.l0 k l l i = some true
  | 0, k, i, hd, hi, hk => by
    obtain ⟨k, rfl⟩ : ∃ m, k = m + 1 := ⟨k - 1, by omega⟩
    simp only [laws_eqInt64S.l0]; rw [if_neg (by omega)]
  | d + 1, k, i, hd, hi, hk => by
    obtain ⟨k, rfl⟩ : ∃ m, k = m + 1 := ⟨k - 1, by omega⟩
    simp only [laws_eqInt64S.l0]; rw [if_pos (by omega), if_pos (by omega), if_pos (by omega), if_pos trivial, w64 (by omega) (by omega)]
    exact eqI_loop l hl d k (i + 1) (by omega) (by omega) (by omega)
theorem eqI_refl (l : List Int) (hl : l.length ≤ 1099511627776) (k : Nat) (hk : l.length < k) : laws_eqInt64S.f k l l = some true := by
  unfold laws_eqInt64S.f; rw [if_pos rfl]; exact eqI_loop l hl l.length k 0 rfl (Nat.zero_le _) hk
def ramp (a : Int) : Nat → List Int
  | 0 => []
  | n + 1 => a :: ramp (a + 1) n
theorem ramp_length (a : Int) (n : Nat) : (ramp a n).length = n := by induction n generalizing a with
  | zero => rfl
  | succ n ih => simp [ramp, ih]
theorem ramp_get (a : Int) (n i : Nat) (h : i < n) : rd (ramp a n) i = a + i := by
  unfold rd
  rw [Int.toNat_natCast]
  induction n generalizing a i with
  | zero => omega
  | succ n ih => cases i with
    | zero => simp [ramp]
    | succ i => simp only [ramp, List.getD_cons_succ]; rw [ih (a + 1) i (by omega)]; omega
theorem ramp_snoc (a : Int) (n : Nat) : ramp a (n + 1) = ramp a n ++ [a + n] := by
  induction n generalizing a with
  | zero => simp [ramp]
  | succ n ih => rw [ramp, ih (a + 1), ramp]; simp; omega
theorem mark_loop (l : List Int) (a : Int) (h0 : 0 ≤ a) (ha : a ≤ 17592186044416) (hl : l.length ≤ 1099511627776) : ∀ (d k i : Nat) (m : List Int), l.length - i = d → i ≤ l.length → d < k → m = ramp a i ++ l.drop i → laws_markInt64S.l0 k m (a + i) i = some (a + l.length, ramp a l.length)
  | 0, k, i, m, hd, hi, hk, hm => by
    obtain ⟨k, rfl⟩ : ∃ m, k = m + 1 := ⟨k - 1, by omega⟩
    obtain rfl : i = l.length := by omega
    rw [List.drop_length, List.append_nil] at hm
    subst hm
    simp only [laws_markInt64S.l0]; rw [if_neg (by rw [ramp_length]; omega)]
  | d + 1, k, i, m, hd, hi, hk, hm => by
    obtain ⟨k, rfl⟩ : ∃ m, k = m + 1 := ⟨k - 1, by omega⟩
    have hm2 : m.length = l.length := by rw [hm, List.length_append, ramp_length, List.length_drop]; omega
    simp only [laws_markInt64S.l0]; rw [if_pos (by omega), if_pos (by omega), w64 (by omega) (by omega), w64 (by omega) (by omega), Int.toNat_natCast, show a + (i : Int) + 1 = a + ((i + 1 : Nat) : Int) by omega]
    refine mark_loop l a h0 ha hl d k (i + 1) _ (by omega) (by omega) (by omega) ?_
    rw [hm, List.drop_eq_getElem_cons (by omega : i < l.length), ramp_snoc, List.set_append_right _ _ (by rw [ramp_length]; omega), ramp_length, Nat.sub_self, List.set_cons_zero, List.append_assoc]; rfl
theorem mark_eq (l : List Int) (a : Int) (h0 : 0 ≤ a) (ha : a ≤ 17592186044416) (hl : l.length ≤ 1099511627776) (k : Nat) (hk : l.length < k) : laws_markInt64S.f k l a = some (a + l.length, ramp a l.length) := by
  have := mark_loop l a h0 ha hl l.length k 0 l rfl (Nat.zero_le _) hk (by simp [ramp])
  simpa [laws_markInt64S.f] using this
theorem held_loop (n : Nat) (a : Int) (h0 : 0 ≤ a) (ha : a ≤ 1099511627776) (hl : n ≤ 1099511627776) : ∀ (d k i : Nat), n - i = d → i ≤ n → d < k → laws_heldInt64S.l0 k (ramp a n) (a + i) i = some (a + n)
  | 0, k, i, hd, hi, hk => by
    obtain ⟨k, rfl⟩ : ∃ m, k = m + 1 := ⟨k - 1, by omega⟩
    obtain rfl : i = n := by omega
    simp only [laws_heldInt64S.l0]; rw [if_neg (by rw [ramp_length]; omega)]
  | d + 1, k, i, hd, hi, hk => by
    obtain ⟨k, rfl⟩ : ∃ m, k = m + 1 := ⟨k - 1, by omega⟩
    simp only [laws_heldInt64S.l0]; rw [if_pos (by rw [ramp_length]; omega), if_pos (by omega), if_pos (by rw [ramp_get _ _ _ (by omega)]), w64 (by omega) (by omega), w64 (by omega) (by omega), show a + (i : Int) + 1 = a + ((i + 1 : Nat) : Int) by omega]
    exact held_loop n a h0 ha hl d k (i + 1) (by omega) (by omega) (by omega)
theorem held_eq (n : Nat) (a : Int) (h0 : 0 ≤ a) (ha : a ≤ 1099511627776) (hl : n ≤ 1099511627776) (k : Nat) (hk : n < k) : laws_heldInt64S.f k (ramp a n) a = some (a + n) := by
  have := held_loop n a h0 ha hl n k 0 rfl (Nat.zero_le _) hk
  simpa [laws_heldInt64S.f] using this
theorem toI_loop (l : List Int) (hl : l.length ≤ 1099511627776) : ∀ (d k i : Nat) (m : List Int), l.length - i = d → i ≤ l.length → d < k → m.length = l.length → m.take i = l.take i → laws_toInt64S.l0 k l m i = some l
  | 0, k, i, m, hd, hi, hk, hm, ht => by
    obtain ⟨k, rfl⟩ : ∃ m, k = m + 1 := ⟨k - 1, by omega⟩
    obtain rfl : i = l.length := by omega
    rw [List.take_length, ← hm, List.take_length] at ht
    subst ht
    simp only [laws_toInt64S.l0]; rw [if_neg (by omega)]
  | d + 1, k, i, m, hd, hi, hk, hm, ht => by
    obtain ⟨k, rfl⟩ : ∃ m, k = m + 1 := ⟨k - 1, by omega⟩
    simp only [laws_toInt64S.l0]; rw [if_pos (by omega), if_pos (by omega), if_pos (by omega), w64 (by omega) (by omega), Int.toNat_natCast]
    refine toI_loop l hl d k (i + 1) _ (by omega) (by omega) (by omega) (by rw [List.length_set]; exact hm) ?_
    rw [List.take_succ_eq_append_getElem (by rw [List.length_set]; omega), List.take_succ_eq_append_getElem (by omega : i < l.length), List.getElem_set_self, List.take_set_of_le (Nat.le_refl i), ht]
    simp [rd, List.getD_eq_getElem?_getD, show i < l.length by omega]
theorem toI_eq (l : List Int) (hl : l.length ≤ 1099511627776) (k : Nat) (hk : l.length < k) : laws_toInt64S.f k l = some l := by
  unfold laws_toInt64S.f
  rw [if_pos (by omega), if_pos (by omega), Int.toNat_natCast]
  exact toI_loop l hl l.length k 0 _ rfl (Nat.zero_le _) hk (by simp) (by simp)
end Go.Proofs.Ytjmglannhkfbmaa.PQuot
namespace Go.Proofs.Ytjmglannhkfbmaa.PQuot
open Go.RowKit Go.Proofs.YtjmglannhkfbmaaW.PrintWords
set_option linter.unusedVariables false
-- the laws' functions over rows of rows, graphs and covers
def Sz (b : Nat) (l : List (List Int)) : Prop := l.length ≤ b ∧ ∀ x ∈ l, x.length ≤ b
theorem Sz.get {b : Nat} {l : List (List Int)} (h : Sz b l) (i : Nat) : (l.getD i []).length ≤ b := by
  rw [List.getD_eq_getElem?_getD]
  by_cases hi : i < l.length
  · rw [List.getElem?_eq_getElem hi]; exact h.2 _ (List.getElem_mem hi)
  · rw [List.getElem?_eq_none (by omega)]; exact Nat.zero_le _
theorem sz_loop (l : List (List Int)) (b : Int) (hb : b ≤ 1048576) (hL : l.length ≤ 1048576) (hx : ∀ x ∈ l, x.length ≤ 9223372036854775807) : ∀ (d k i : Nat) (a : Int), l.length - i = d → i ≤ l.length → d < k → 0 ≤ a → a ≤ b → (∀ x ∈ l.take i, (x.length : Int) ≤ b) →
    ∃ s, laws_szInt64SS.l0 k l a i = some s ∧ (s < 0 ∨ 0 ≤ s ∧ s ≤ a ∧ ∀ x ∈ l, (x.length : Int) ≤ b)
  | 0, k, i, a, hd, hi, hk, h0, ha, ht => by
    obtain ⟨k, rfl⟩ : ∃ m, k = m + 1 := ⟨k - 1, by omega⟩
    obtain rfl : i = l.length := by omega
    rw [List.take_length] at ht
    refine ⟨a, ?_, .inr ⟨h0, Int.le_refl _, ht⟩⟩
    simp only [laws_szInt64SS.l0]; rw [if_neg (by omega)]
  | d + 1, k, i, a, hd, hi, hk, h0, ha, ht => by
    obtain ⟨k, rfl⟩ : ∃ m, k = m + 1 := ⟨k - 1, by omega⟩
    have hi2 : i < l.length := by omega
    have hg : rd_L1 l i = l[i] := by unfold rd_L1; rw [Int.toNat_natCast, List.getD_eq_getElem?_getD, List.getElem?_eq_getElem hi2]; rfl
    have hm := hx l[i] (List.getElem_mem hi2)
    simp only [laws_szInt64SS.l0]; rw [if_pos (by omega), if_pos (by omega), hg]
    unfold laws_szInt64S.f
    rw [w64 (by omega) (by omega)]
    by_cases hneg : a - (l[i].length : Int) < 0
    · rw [if_pos hneg]; exact ⟨-1, rfl, .inl (by omega)⟩
    · rw [if_neg hneg, Option.bind_some, if_neg hneg, w64 (by omega) (by omega)]
      obtain ⟨s, hs, h⟩ := sz_loop l b hb hL hx d k (i + 1) (a - l[i].length) (by omega) (by omega) (by omega) (by omega) (by omega) (by
        rw [List.take_succ_eq_append_getElem hi2]
        intro x hxm
        rcases List.mem_append.mp hxm with h | h
        · exact ht x h
        · rw [List.mem_singleton.mp h]; omega)
      exact ⟨s, hs, h.imp_right fun h => ⟨h.1, by omega, h.2.2⟩⟩
theorem sz_rows (l : List (List Int)) (a : Int) (h0 : 0 ≤ a) (ha : a ≤ 1048576) (hl : l.length ≤ 9223372036854775807) (hx : ∀ x ∈ l, x.length ≤ 9223372036854775807) (k : Nat) (hk : 1048576 < k) :
    ∃ s, laws_szInt64SS.f k l a = some s ∧ (s < 0 ∨ 0 ≤ s ∧ s ≤ a ∧ Sz 1048576 l) := by
  unfold laws_szInt64SS.f
  rw [w64 (by omega) (by omega)]
  by_cases hneg : a - (l.length : Int) < 0
  · rw [if_pos hneg]; exact ⟨-1, rfl, .inl (by omega)⟩
  · rw [if_neg hneg]
    obtain ⟨s, hs, h⟩ := sz_loop l (a - l.length) (by omega) (by omega) hx l.length k 0 (a - l.length) rfl (Nat.zero_le _) (by omega) (by omega) (Int.le_refl _) (by simp)
    exact ⟨s, hs, h.imp_right fun h => ⟨h.1, by omega, by omega, fun x hm => by have := h.2.2 x hm; omega⟩⟩
theorem eqR_loop (l : List (List Int)) (b : Nat) (hb : b ≤ 1099511627776) (hl : Sz b l) : ∀ (d k i : Nat), l.length - i = d → i ≤ l.length → d + b + 1 < k → laws_eqInt64SS.l0 k l l i = some true
  | 0, k, i, hd, hi, hk => by
    obtain ⟨k, rfl⟩ : ∃ m, k = m + 1 := ⟨k - 1, by omega⟩
    simp only [laws_eqInt64SS.l0]; rw [if_neg (by omega)]
  | d + 1, k, i, hd, hi, hk => by
    obtain ⟨k, rfl⟩ : ∃ m, k = m + 1 := ⟨k - 1, by omega⟩
    have hg : (rd_L1 l i).length ≤ b := hl.get _
    have hL := hl.1
    simp only [laws_eqInt64SS.l0]
    rw [if_pos (by omega), if_pos (by omega), if_pos (by omega), eqI_refl _ (by omega) k (by omega), Option.bind_some, if_pos rfl, w64 (by omega) (by omega)]
    exact eqR_loop l b hb hl d k (i + 1) (by omega) (by omega) (by omega)
theorem eqR_refl (l : List (List Int)) (b : Nat) (hb : b ≤ 1099511627776) (hl : Sz b l) (k : Nat) (hk : 2 * b + 1 < k) : laws_eqInt64SS.f k l l = some true := by
  unfold laws_eqInt64SS.f; rw [if_pos rfl]; exact eqR_loop l b hb hl l.length k 0 rfl (Nat.zero_le _) (by have := hl.1; omega)
theorem eqG_refl (n : Int) (l : List (List Int)) (b : Nat) (hb : b ≤ 1099511627776) (hl : Sz b l) (k : Nat) (hk : 2 * b + 1 < k) : laws_eqGraph.f k n l n l = some true := by
  unfold laws_eqGraph.f; rw [if_pos rfl, eqR_refl l b hb hl k hk]; rfl
theorem eqC_refl (n s : Int) (l t : List (List Int)) (b : Nat) (hb : b ≤ 1099511627776) (hl : Sz b l) (ht : Sz b t) (k : Nat) (hk : 2 * b + 1 < k) : laws_eqCover.f k n l s t n l s t = some true := by
  unfold laws_eqCover.f; rw [eqG_refl n l b hb hl k hk, Option.bind_some, if_pos rfl, if_pos rfl, eqR_refl t b hb ht k hk]; rfl
theorem toR_loop (l : List (List Int)) (b : Nat) (hb : b ≤ 1099511627776) (hl : Sz b l) : ∀ (d k i : Nat) (m : List (List Int)), l.length - i = d → i ≤ l.length → d + b + 1 < k → m.length = l.length → m.take i = l.take i → laws_toInt64SS.l0 k l m i = some l
  | 0, k, i, m, hd, hi, hk, hm, ht => by
    obtain ⟨k, rfl⟩ : ∃ m, k = m + 1 := ⟨k - 1, by omega⟩
    obtain rfl : i = l.length := by omega
    rw [List.take_length, ← hm, List.take_length] at ht
    subst ht
    simp only [laws_toInt64SS.l0]; rw [if_neg (by omega)]
  | d + 1, k, i, m, hd, hi, hk, hm, ht => by
    obtain ⟨k, rfl⟩ : ∃ m, k = m + 1 := ⟨k - 1, by omega⟩
    have hg : (rd_L1 l i).length ≤ b := hl.get _
    have hL := hl.1
    simp only [laws_toInt64SS.l0]
    rw [if_pos (by omega), if_pos (by omega), toI_eq _ (by omega) k (by omega), Option.bind_some, if_pos (by omega), w64 (by omega) (by omega), Int.toNat_natCast]
    refine toR_loop l b hb hl d k (i + 1) _ (by omega) (by omega) (by omega) (by rw [List.length_set]; exact hm) ?_
    rw [List.take_succ_eq_append_getElem (by rw [List.length_set]; omega), List.take_succ_eq_append_getElem (by omega : i < l.length), List.getElem_set_self, List.take_set_of_le (Nat.le_refl i), ht]
    simp [rd_L1, List.getD_eq_getElem?_getD, show i < l.length by omega]
theorem toR_eq (l : List (List Int)) (b : Nat) (hb : b ≤ 1048576) (hl : Sz b l) (k : Nat) (hk : 2 * b + 1 < k) : laws_toInt64SS.f k l = some l := by
  have hL := hl.1
  unfold laws_toInt64SS.f
  rw [if_pos (by omega), if_pos (by omega), Int.toNat_natCast]
  exact toR_loop l b (by omega) hl l.length k 0 _ rfl (Nat.zero_le _) (by omega) (by simp) (by simp)
theorem toG_eq (n : Int) (l : List (List Int)) (b : Nat) (hb : b ≤ 1048576) (hl : Sz b l) (k : Nat) (hk : 2 * b + 1 < k) : laws_toGraph.f k n l = some (n, l) := by
  unfold laws_toGraph.f; rw [toR_eq l b hb hl k hk]; rfl
theorem toC_eq (n s : Int) (l t : List (List Int)) (b : Nat) (hb : b ≤ 1048576) (hl : Sz b l) (ht : Sz b t) (k : Nat) (hk : 2 * b + 1 < k) : laws_toCover.f k n l s t = some (n, l, s, t) := by
  unfold laws_toCover.f; rw [toG_eq n l b hb hl k hk, Option.bind_some, toR_eq t b hb ht k hk]; rfl
theorem szC_eq (n s : Int) (l t : List (List Int)) (hl : l.length ≤ 9223372036854775807) (hx : ∀ x ∈ l, x.length ≤ 9223372036854775807) (ht : t.length ≤ 9223372036854775807) (hy : ∀ x ∈ t, x.length ≤ 9223372036854775807) (k : Nat) (hk : 1048576 < k) :
    ∃ r, laws_szCover.f k n l s t 1048576 = some r ∧ (r < 0 ∨ ¬ r < 0 ∧ Sz 1048576 l ∧ Sz 1048576 t) := by
  obtain ⟨r1, h1, g1⟩ := sz_rows l 1048576 (by omega) (by omega) hl hx k hk
  unfold laws_szCover.f laws_szGraph.f
  rw [h1]
  rcases g1 with g1 | ⟨g1, g2, g3⟩
  · exact ⟨-1, by simp [g1], .inl (by omega)⟩
  · obtain ⟨r2, h2, g4⟩ := sz_rows t r1 g1 g2 ht hy k hk
    simp only [Option.bind_some, show ¬ r1 < 0 by omega, if_false, h2]
    rcases g4 with g4 | ⟨g4, -, g5⟩
    · exact ⟨-1, by simp [g4], .inl (by omega)⟩
    · exact ⟨r2, by simp [show ¬ r2 < 0 by omega], .inr ⟨by omega, g3, g5⟩⟩
theorem markR_eq (l : List (List Int)) (b : Nat) (hb : b ≤ 1048576) (hx : ∀ x ∈ l, x.length ≤ b) (k : Nat) (hk : b < k) : ∀ (a : Int), 0 ≤ a → a + (l.length : Int) * b ≤ 17592186044416 → ∃ r d, markSS k l a = some (r, d) ∧ 0 ≤ r ∧ r ≤ a + (l.length : Int) * b := by
  induction l with
  | nil => exact fun a h0 _ => ⟨a, [], rfl, h0, by simp⟩
  | cons x l ih =>
    intro a h0 ha
    have hxb := hx x (by simp)
    have e : ((x :: l).length : Int) * b = (l.length : Int) * b + b := by rw [List.length_cons, Int.natCast_add, Int.add_mul]; simp
    have hnn : 0 ≤ (l.length : Int) * b := Int.mul_nonneg (Int.natCast_nonneg _) (Int.natCast_nonneg _)
    rw [e] at ha ⊢
    obtain ⟨r, d, h1, h2, h3⟩ := ih (fun y hy => hx y (by simp [hy])) (a + x.length) (by omega) (by omega)
    refine ⟨r, ramp a x.length :: d, ?_, h2, by omega⟩
    simp only [markSS]
    rw [mark_eq x a h0 (by omega) (by omega) k (by omega), Option.bind_some, h1]; rfl
end Go.Proofs.Ytjmglannhkfbmaa.PQuot
namespace Go.Proofs.Ytjmglannhkfbmaa.PQuot
open Go.RowKit Go.Proofs.YtjmglannhkfbmaaW.PrintWords
set_option linter.unusedVariables false
-- both sides' checks of graphs and covers
def okP (s : Int) (x : List Int) : Bool := decide ((x.length : Int) = s) && okPerm x s
def okC (n : Int) (l : List (List Int)) (s : Int) (t : List (List Int)) : Bool := okG n l && (decide (1 ≤ s) && decide (s ≤ 4)) && decide (t.length = l.length) && t.all (okP s)
theorem all_drop {p : List Int → Bool} {t : List (List Int)} {i : Nat} (hi : i < t.length) : (t.drop i).all p = (p (t.getD i []) && (t.drop (i + 1)).all p) := by
  rw [List.drop_eq_getElem_cons hi, List.all_cons, List.getD_eq_getElem?_getD, List.getElem?_eq_getElem hi]; rfl
theorem spIs_loop (n s : Int) (l t : List (List Int)) (hs : s ≤ 4) (hT : t.length ≤ 1048576) : ∀ (d k i : Nat), t.length - i = d → i ≤ t.length → d < k → spec_l04Is.l0 k i n l s t = some ((t.drop i).all (okP s))
  | 0, k, i, hd, hi, hk => by
    obtain ⟨k, rfl⟩ : ∃ m, k = m + 1 := ⟨k - 1, by omega⟩
    obtain rfl : i = t.length := by omega
    simp only [spec_l04Is.l0]; rw [if_neg (by omega), List.drop_length]; rfl
  | d + 1, k, i, hd, hi, hk => by
    obtain ⟨k, rfl⟩ : ∃ m, k = m + 1 := ⟨k - 1, by omega⟩
    have hi2 : i < t.length := by omega
    simp only [spec_l04Is.l0]; rw [if_pos (by omega), if_pos (by omega), all_drop hi2]
    have hg : rd_L1 t i = t.getD i [] := by unfold rd_L1; rw [Int.toNat_natCast]
    rw [hg]
    generalize t.getD i [] = x
    unfold spec_l04Permutation.f okP
    by_cases hx : (x.length : Int) = s
    · rw [if_pos hx, if_pos hs, Option.bind_some, decide_eq_true hx, Bool.true_and]
      cases okPerm x s with
      | false => rfl
      | true => rw [if_pos rfl, w64 (by omega) (by omega), Bool.true_and]; exact spIs_loop n s l t hs hT d k (i + 1) (by omega) (by omega) (by omega)
    · rw [if_neg hx, Option.bind_some, decide_eq_false hx]; rfl
theorem spIs_eq (n s : Int) (l t : List (List Int)) (hT : t.length ≤ 1048576) (k : Nat) (hk : 1048578 < k) : spec_l04Is.f k n l s t = some (okC n l s t) := by
  have hf : spec_l04Is.j0 k true n l s t = some false := by
    obtain ⟨k, rfl⟩ : ∃ m, k = m + 1 := ⟨k - 1, by omega⟩
    simp only [spec_l04Is.j0]; rfl
  unfold spec_l04Is.f spec_l01Is.f okC
  rw [Option.bind_some]
  cases okG n l with
  | false => exact hf
  | true =>
    rw [if_pos rfl, Bool.true_and]
    have hin : spec_l01In.f s 1 4 = some (decide (1 ≤ s) && decide (s ≤ 4)) := by
      unfold spec_l01In.f
      by_cases h1 : 1 ≤ s
      · rw [if_pos h1, decide_eq_true h1, Bool.true_and]
      · rw [if_neg h1, decide_eq_false h1, Bool.false_and]
    rw [hin, Option.bind_some]
    cases hc : (decide (1 ≤ s) && decide (s ≤ 4)) with
    | false => exact hf
    | true =>
      rw [if_pos rfl, Bool.true_and]
      have h4 : s ≤ 4 := by simp at hc; exact hc.2
      obtain ⟨k, rfl⟩ : ∃ m, k = m + 1 := ⟨k - 1, by omega⟩
      simp only [spec_l04Is.j0]
      by_cases he : t.length = l.length
      · rw [show ((t.length : Int) != (l.length : Int)) = false by rw [he]; exact bne_self_eq_false _, if_neg (by decide), decide_eq_true he, Bool.true_and]
        exact spIs_loop n s l t h4 hT t.length k 0 rfl (Nat.zero_le _) (by omega)
      · rw [show ((t.length : Int) != (l.length : Int)) = true from bne_iff_ne.mpr (by omega), if_pos rfl, decide_eq_false he]; rfl
theorem implIn (x a b : Int) : impl_within.f x a b = some (decide (a ≤ x) && decide (x ≤ b)) := by
  unfold impl_within.f
  by_cases h1 : a ≤ x
  · rw [if_pos h1, decide_eq_true h1, Bool.true_and]
  · rw [if_neg h1, decide_eq_false h1, Bool.false_and]
theorem okG_in {n : Int} {l : List (List Int)} (h : ¬ (1 ≤ n ∧ n ≤ 8)) : okG n l = false := by
  unfold okG
  have : (decide (1 ≤ n) && decide (n ≤ 8)) = false := by
    cases h5 : (decide (1 ≤ n) && decide (n ≤ 8))
    · rfl
    · simp at h5; exact absurd h5 h
  rw [this]; rfl
theorem imIs_loop (n : Int) (l : List (List Int)) (hL : l.length ≤ 1048576) : ∀ (d k i : Nat), l.length - i = d → i ≤ l.length → d < k → ∃ b, impl_IsGraph.l0 k l l.length i n l = some b ∧ (¬ (1 ≤ n ∧ n ≤ 8) → b = false) ∧ (1 ≤ n ∧ n ≤ 8 → b = ((l.drop i).all (okE n) && decide (l.length ≤ 10)))
  | 0, k, i, hd, hi, hk => by
    obtain ⟨k, rfl⟩ : ∃ m, k = m + 1 := ⟨k - 1, by omega⟩
    obtain rfl : i = l.length := by omega
    simp only [impl_IsGraph.l0]; rw [if_neg (by omega), implIn, List.drop_length, Option.bind_some]
    by_cases h : 1 ≤ n ∧ n ≤ 8
    · rw [decide_eq_true h.1, decide_eq_true h.2]
      exact ⟨decide ((l.length : Int) ≤ 10), rfl, fun h2 => absurd h h2, fun _ => by rw [List.all_nil, Bool.true_and]; exact decide_eq_decide.mpr (by omega)⟩
    · have h5 : (decide (1 ≤ n) && decide (n ≤ 8)) = false := by
        cases h5 : (decide (1 ≤ n) && decide (n ≤ 8))
        · rfl
        · simp at h5; exact absurd h5 h
      rw [h5]
      exact ⟨false, by rw [if_neg (by decide)], fun _ => rfl, fun h2 => absurd h2 h⟩
  | d + 1, k, i, hd, hi, hk => by
    obtain ⟨k, rfl⟩ : ∃ m, k = m + 1 := ⟨k - 1, by omega⟩
    have hi2 : i < l.length := by omega
    obtain ⟨b, hb, g1, g2⟩ := imIs_loop n l hL d k (i + 1) (by omega) (by omega) (by omega)
    simp only [impl_IsGraph.l0]; rw [if_pos (by omega), if_pos (by omega), if_pos (by omega), all_drop hi2]
    have hg : rd_L1 l i = l.getD i [] := by unfold rd_L1; rw [Int.toNat_natCast]
    rw [hg]
    generalize l.getD i [] = e
    by_cases h2 : e.length = 2
    · rw [if_pos (by omega), if_pos (by omega), implIn, Option.bind_some, implIn]
      have ok : 1 ≤ n ∧ n ≤ 8 → okE n e = ((decide (0 ≤ rd e 0) && decide (rd e 0 ≤ wrap64 (n - 1))) && (decide (0 ≤ rd e 1) && decide (rd e 1 ≤ wrap64 (n - 1)))) := fun h => by
        rw [w64 (by omega) (by omega)]; unfold okE
        rw [decide_eq_true h2, Bool.true_and, decide_eq_decide.mpr (show rd e 0 < n ↔ rd e 0 ≤ n - 1 by omega), decide_eq_decide.mpr (show rd e 1 < n ↔ rd e 1 ≤ n - 1 by omega)]
      cases hx : (decide (0 ≤ rd e 0) && decide (rd e 0 ≤ wrap64 (n - 1))) with
      | false => rw [hx] at ok; exact ⟨false, by rw [if_neg (by decide)], fun _ => rfl, fun h => by rw [ok h]; rfl⟩
      | true =>
        rw [hx] at ok
        rw [if_pos rfl, if_pos (by omega), Option.bind_some]
        cases hy : (decide (0 ≤ rd e 1) && decide (rd e 1 ≤ wrap64 (n - 1))) with
        | false => rw [hy] at ok; exact ⟨false, by rw [if_neg (by decide)], fun _ => rfl, fun h => by rw [ok h]; rfl⟩
        | true =>
          rw [hy] at ok
          rw [if_pos rfl, w64 (by omega) (by omega)]
          exact ⟨b, hb, g1, fun h => by rw [ok h, g2 h]; rfl⟩
    · rw [if_neg (by omega)]
      exact ⟨false, rfl, fun _ => rfl, fun h => by unfold okE; rw [decide_eq_false h2]; rfl⟩
theorem imIs_eq (n : Int) (l : List (List Int)) (hL : l.length ≤ 1048576) (k : Nat) (hk : 1048578 < k) : impl_IsGraph.f k n l = some (okG n l) := by
  obtain ⟨b, hb, g1, g2⟩ := imIs_loop n l hL l.length k 0 rfl (Nat.zero_le _) (by omega)
  unfold impl_IsGraph.f
  rw [show (0 : Int) = ((0 : Nat) : Int) from rfl, hb]
  congr 1
  by_cases h : 1 ≤ n ∧ n ≤ 8
  · rw [g2 h, List.drop_zero]; unfold okG; rw [decide_eq_true h.1, decide_eq_true h.2, Bool.and_comm]; rfl
  · rw [g1 h, okG_in h]
theorem index_loop (l : List Int) (x : Int) (hL : l.length ≤ 1099511627776) : ∀ (d k i : Nat), l.length - i = d → i ≤ l.length → d < k → ∃ r, slices_Index_int64_int64.l0 k l x l.length i = some r ∧ decide (r ≥ 0) = (l.drop i).contains x
  | 0, k, i, hd, hi, hk => by
    obtain ⟨k, rfl⟩ : ∃ m, k = m + 1 := ⟨k - 1, by omega⟩
    obtain rfl : i = l.length := by omega
    simp only [slices_Index_int64_int64.l0]; rw [if_neg (by omega), List.drop_length]
    exact ⟨-1, rfl, rfl⟩
  | d + 1, k, i, hd, hi, hk => by
    obtain ⟨k, rfl⟩ : ∃ m, k = m + 1 := ⟨k - 1, by omega⟩
    have hi2 : i < l.length := by omega
    have hg : rd l i = l[i] := by unfold rd; rw [Int.toNat_natCast, List.getD_eq_getElem?_getD, List.getElem?_eq_getElem hi2]; rfl
    simp only [slices_Index_int64_int64.l0]; rw [if_pos (by omega), if_pos (by omega), if_pos (by omega), hg, List.drop_eq_getElem_cons hi2, List.contains_cons]
    by_cases he : x = l[i]
    · rw [if_pos he]; exact ⟨i, rfl, by rw [beq_iff_eq.mpr he, Bool.true_or]; exact decide_eq_true (by omega)⟩
    · rw [if_neg he, w64 (by omega) (by omega), beq_eq_false_iff_ne.mpr he, Bool.false_or]
      exact index_loop l x hL d k (i + 1) (by omega) (by omega) (by omega)
theorem contains_eq (l : List Int) (x : Int) (hL : l.length ≤ 1099511627776) (k : Nat) (hk : l.length < k) : slices_Contains_int64_int64.f k l x = some (l.contains x) := by
  obtain ⟨r, h1, h2⟩ := index_loop l x hL l.length k 0 rfl (Nat.zero_le _) hk
  unfold slices_Contains_int64_int64.f slices_Index_int64_int64.f
  have h1' : slices_Index_int64_int64.l0 k l x l.length 0 = some r := h1
  rw [h1', Option.bind_some, h2]; rfl
theorem order_loop (l : List Int) (n : Nat) (hL : l.length ≤ 1048576) (hn : n ≤ 1048576) : ∀ (d k i : Nat), n - i = d → i ≤ n → d + 1048577 < k → ∃ b, impl_isOrder.l0 k l n n i = some b ∧ (b = true ↔ l.length = n ∧ ∀ j, i ≤ j → j < n → (j : Int) ∈ l)
  | 0, k, i, hd, hi, hk => by
    obtain ⟨k, rfl⟩ : ∃ m, k = m + 1 := ⟨k - 1, by omega⟩
    simp only [impl_isOrder.l0]; rw [if_neg (by omega)]
    refine ⟨_, rfl, ?_⟩
    rw [beq_iff_eq]
    exact ⟨fun h => ⟨by omega, fun j _ _ => by omega⟩, fun h => by omega⟩
  | d + 1, k, i, hd, hi, hk => by
    obtain ⟨k, rfl⟩ : ∃ m, k = m + 1 := ⟨k - 1, by omega⟩
    simp only [impl_isOrder.l0]; rw [if_pos (by omega), contains_eq l i (by omega) k (by omega), Option.bind_some, w64 (by omega) (by omega)]
    by_cases hm : (i : Int) ∈ l
    · rw [show l.contains (i : Int) = true by rw [List.contains_eq_mem]; exact decide_eq_true hm, if_pos rfl]
      obtain ⟨b, hb, h⟩ := order_loop l n hL hn d k (i + 1) (by omega) (by omega) (by omega)
      refine ⟨b, hb, h.trans ⟨fun h => ⟨h.1, fun j h1 h2 => ?_⟩, fun h => ⟨h.1, fun j h1 h2 => h.2 j (by omega) h2⟩⟩⟩
      rcases Nat.lt_or_ge i j with h3 | h3
      · exact h.2 j h3 h2
      · rw [show j = i by omega]; exact hm
    · rw [show l.contains (i : Int) = false by rw [List.contains_eq_mem]; exact decide_eq_false hm, if_neg (by decide)]
      exact ⟨false, rfl, ⟨fun h => (by cases h), fun h => absurd (h.2 i (Nat.le_refl _) (by omega)) hm⟩⟩
theorem pigeon : ∀ (n : Nat) (l : List Int), l.Nodup → (∀ x ∈ l, 0 ≤ x ∧ x < (n : Int)) → l.length ≤ n
  | 0, l, _, h => by cases l with
    | nil => exact Nat.le_refl _
    | cons x l => have := h x (by simp); omega
  | n + 1, l, hn, h => by
    by_cases hm : (n : Int) ∈ l
    · have hp := List.perm_cons_erase hm
      have hq := hp.nodup_iff.mp hn
      rw [List.nodup_cons] at hq
      have := pigeon n (l.erase (n : Int)) hq.2 (fun x hx => by
        have h1 := h x (List.mem_of_mem_erase hx)
        have : x ≠ (n : Int) := fun e => hq.1 (e ▸ hx)
        omega)
      have := hp.length_eq
      simp only [List.length_cons] at this
      omega
    · have := pigeon n l hn (fun x hx => by
        have h1 := h x hx
        have : x ≠ (n : Int) := fun e => hm (e ▸ hx)
        omega)
      omega
theorem perm_of_all : ∀ (n : Nat) (l : List Int), l.length = n → (∀ j, j < n → (j : Int) ∈ l) → l.Nodup ∧ ∀ x ∈ l, 0 ≤ x ∧ x < (n : Int)
  | 0, l, h, _ => by rw [List.length_eq_zero_iff.mp h]; exact ⟨List.nodup_nil, fun x hx => by cases hx⟩
  | n + 1, l, h, ha => by
    have hm := ha n (by omega)
    have hp := List.perm_cons_erase hm
    have hl := hp.length_eq
    simp only [List.length_cons] at hl
    obtain ⟨h1, h2⟩ := perm_of_all n (l.erase (n : Int)) (by omega) (fun j hj => (List.mem_erase_of_ne (by omega)).mpr (ha j (by omega)))
    refine ⟨hp.nodup_iff.mpr (List.nodup_cons.mpr ⟨fun hx => by have := h2 _ hx; omega, h1⟩), fun x hx => ?_⟩
    rcases List.mem_cons.mp (hp.mem_iff.mp hx) with e | e
    · omega
    · have := h2 x e; omega
theorem perm_iff (l : List Int) (n : Nat) (hl : l.length = n) : okPerm l n = true ↔ ∀ j, j < n → (j : Int) ∈ l := by
  unfold okPerm
  rw [Bool.and_eq_true, List.all_eq_true, decide_eq_true_eq]
  constructor
  · rintro ⟨h1, h2⟩ j hj
    by_cases hm : (j : Int) ∈ l
    · exact hm
    · have := pigeon n ((j : Int) :: l) (List.nodup_cons.mpr ⟨hm, h2⟩) (fun x hx => by
        rcases List.mem_cons.mp hx with e | e
        · omega
        · simpa using h1 x e)
      simp only [List.length_cons] at this
      omega
  · intro h
    obtain ⟨h1, h2⟩ := perm_of_all n l hl h
    exact ⟨fun x hx => by simpa using h2 x hx, h1⟩
theorem order_eq (l : List Int) (s : Int) (h0 : 1 ≤ s) (h4 : s ≤ 4) (hL : l.length ≤ 1048576) (k : Nat) (hk : 1048590 < k) : impl_isOrder.f k l s = some (okP s l) := by
  obtain ⟨n, rfl⟩ := Int.eq_ofNat_of_zero_le (by omega : 0 ≤ s)
  obtain ⟨b, hb, h⟩ := order_loop l n hL (by omega) n k 0 rfl (Nat.zero_le _) (by omega)
  unfold impl_isOrder.f
  have hb' : impl_isOrder.l0 k l (n : Int) (n : Int) 0 = some b := hb
  rw [hb']
  congr 1
  rw [Bool.eq_iff_iff, h]
  unfold okP
  rw [Bool.and_eq_true, decide_eq_true_eq]
  constructor
  · rintro ⟨h1, h2⟩
    exact ⟨by omega, (perm_iff l n h1).mpr fun j hj => h2 j (Nat.zero_le _) hj⟩
  · rintro ⟨h1, h2⟩
    exact ⟨by omega, fun j _ hj => (perm_iff l n (by omega)).mp h2 j hj⟩
theorem mapO_map {α β : Type} {f : α → Option β} {g : α → β} : ∀ {l : List α}, (∀ x ∈ l, f x = some (g x)) → mapO f l = some (l.map g)
  | [], _ => rfl
  | x :: l, h => by
    simp only [mapO]; rw [h x (by simp), Option.bind_some, mapO_map fun y hy => h y (by simp [hy])]; rfl
theorem imCover_eq (n s : Int) (l t : List (List Int)) (hl : l.length ≤ 1048576) (ht : Sz 1048576 t) (k : Nat) (hk : 1048590 < k) : impl_IsCover.f k n l s t = some (okC n l s t) := by
  unfold impl_IsCover.f okC
  rw [imIs_eq n l hl k (by omega), Option.bind_some]
  cases okG n l with
  | false => rfl
  | true =>
    rw [if_pos rfl, implIn, Option.bind_some, Bool.true_and]
    cases hc : (decide (1 ≤ s) && decide (s ≤ 4)) with
    | false => rfl
    | true =>
      have h4 : 1 ≤ s ∧ s ≤ 4 := by simpa using hc
      unfold impl_Graph_size.f
      rw [if_pos rfl, Option.bind_some, Bool.true_and]
      by_cases he : t.length = l.length
      · rw [if_pos (by omega), decide_eq_true he, Bool.true_and]
        unfold impl_ContainsFunc__IsCover.f
        rw [mapO_map (g := okP s) (fun x hx => order_eq x s h4.1 h4.2 (ht.2 x hx) k hk)]
        simp [List.any_map, List.all_eq_not_any_not, Function.comp_def]
      · rw [if_neg (by omega), decide_eq_false he]; rfl
end Go.Proofs.Ytjmglannhkfbmaa.PQuot
namespace Go.Proofs.Ytjmglannhkfbmaa.PQuot
open Go.RowKit Go.Proofs.YtjmglannhkfbmaaW.PrintWords
set_option linter.unusedVariables false
-- both sides' derived graph of a valid cover
def dRow (s : Int) (e t : List Int) (i : Nat) : List Int := [rd e 0 * s + i, rd e 1 * s + rd t i]
def dRows (s : Nat) (l t : List (List Int)) (j : Nat) : List (List Int) := (List.range s).map (dRow s (l.getD j []) (t.getD j []))
def dE (s : Nat) (l t : List (List Int)) : List (List Int) := (List.range l.length).flatMap (dRows s l t)
theorem okC_parts {n s : Int} {l t : List (List Int)} (h : okC n l s t = true) : (1 ≤ n ∧ n ≤ 8 ∧ l.length ≤ 10 ∧ ∀ e ∈ l, e.length = 2 ∧ (0 ≤ rd e 0 ∧ rd e 0 < n) ∧ 0 ≤ rd e 1 ∧ rd e 1 < n) ∧ (1 ≤ s ∧ s ≤ 4) ∧ t.length = l.length ∧ ∀ x ∈ t, (x.length : Int) = s ∧ okPerm x s = true := by
  unfold okC okG okE okP at h
  simpa [and_assoc] using h
theorem getD_mem {l : List (List Int)} {j : Nat} (hj : j < l.length) : l.getD j [] ∈ l := by
  rw [List.getD_eq_getElem?_getD, List.getElem?_eq_getElem hj]; exact List.getElem_mem hj
theorem rd_mem {l : List Int} {j : Nat} (hj : j < l.length) : rd l j ∈ l := by
  unfold rd; rw [Int.toNat_natCast, List.getD_eq_getElem?_getD, List.getElem?_eq_getElem hj]; exact List.getElem_mem hj
theorem okPerm_in {x : List Int} {s : Int} (h : okPerm x s = true) : ∀ y ∈ x, 0 ≤ y ∧ y < s := by
  unfold okPerm at h; simp only [Bool.and_eq_true, List.all_eq_true, decide_eq_true_eq] at h; exact h.1
theorem small_row {n a b : Int} (hn : n ≤ 8) (ha : 0 ≤ a ∧ a < n) {s : Nat} (hs : s ≤ 4) (hb : 0 ≤ b ∧ b < s) : wrap64 (wrap64 (a * s) + b) = a * s + b := by
  obtain ⟨h1, h2⟩ := ha
  have g1 : 0 ≤ a * s := Int.mul_nonneg h1 (Int.natCast_nonneg _)
  have g2 : a * s ≤ 7 * 4 := Int.mul_le_mul (by omega) (by omega) (Int.natCast_nonneg _) (by omega)
  rw [w64 (x := a * s) (by omega) (by omega), w64 (by omega) (by omega)]
theorem spD1 {n N : Int} {s : Nat} {l t : List (List Int)} (h : okC n l s t = true) (j : Nat) (hj : j < l.length) (R : Int × List (List Int)) : ∀ (d K k i : Nat) (acc : List (List Int)), s - i = d → i ≤ s → K + d + 1 ≤ k → acc.length + d ≤ 1000 →
    (∀ k', K ≤ k' → spec_l04Derived.l0 k' ((j + 1 : Nat) : Int) n l s t N (acc ++ (List.range' i d).map (dRow s (l.getD j []) (t.getD j []))) = some R) → spec_l04Derived.l1 k j i n l s t N acc = some R := by
  obtain ⟨⟨h1, h2, h3, h4⟩, ⟨h5, h6⟩, h7, h8⟩ := okC_parts h
  have he := h4 _ (getD_mem hj)
  have ht := h8 _ (getD_mem (h7 ▸ hj : j < t.length))
  have hge : rd_L1 l j = l.getD j [] := by unfold rd_L1; rw [Int.toNat_natCast]
  have hgt : rd_L1 t j = t.getD j [] := by unfold rd_L1; rw [Int.toNat_natCast]
  intro d
  induction d with
  | zero =>
    intro K k i acc hd hi hk hA H
    obtain ⟨k, rfl⟩ : ∃ m, k = m + 1 := ⟨k - 1, by omega⟩
    simp only [spec_l04Derived.l1]; rw [if_neg (by omega), w64 (by omega) (by omega)]
    have := H k (by omega)
    rw [List.range'_zero, List.map_nil, List.append_nil] at this
    exact this
  | succ d ih =>
    intro K k i acc hd hi hk hA H
    obtain ⟨k, rfl⟩ : ∃ m, k = m + 1 := ⟨k - 1, by omega⟩
    have hin := okPerm_in ht.2 _ (rd_mem (show i < (t.getD j []).length by omega))
    simp only [spec_l04Derived.l1]; rw [hge, hgt]
    rw [if_pos (by omega), if_pos (by omega), if_pos (by omega), if_pos (by omega), if_pos (by omega), if_pos (by omega), if_pos (by omega), if_pos (by omega), if_pos (by omega)]
    rw [w64 (x := (i : Int) + 1) (by omega) (by omega), small_row h2 he.2.1 (by omega) (by omega), small_row h2 he.2.2 (by omega) hin]
    refine ih K k (i + 1) _ (by omega) (by omega) (by omega) (by simp; omega) (fun k' hk' => ?_)
    have := H k' hk'
    rw [List.range'_succ, List.map_cons] at this
    rw [List.append_assoc]
    exact this
theorem dRows_eq (s : Nat) (l t : List (List Int)) (j : Nat) : dRows s l t j = (List.range' 0 s).map (dRow s (l.getD j []) (t.getD j [])) := by unfold dRows; rw [List.range_eq_range']
theorem spD0 {n N : Int} {s : Nat} {l t : List (List Int)} (h : okC n l s t = true) : ∀ (d k j : Nat) (acc : List (List Int)), l.length - j = d → j ≤ l.length → 10 * d + 1 ≤ k → acc.length + 4 * d ≤ 900 →
    spec_l04Derived.l0 k j n l s t N acc = some (N, acc ++ (List.range' j d).flatMap (dRows s l t)) := by
  obtain ⟨⟨h1, h2, h3, h4⟩, ⟨h5, h6⟩, h7, h8⟩ := okC_parts h
  intro d
  induction d with
  | zero =>
    intro k j acc hd hj hk hA
    obtain ⟨k, rfl⟩ : ∃ m, k = m + 1 := ⟨k - 1, by omega⟩
    simp only [spec_l04Derived.l0]; rw [if_neg (by omega)]; simp
  | succ d ih =>
    intro k j acc hd hj hk hA
    obtain ⟨k, rfl⟩ : ∃ m, k = m + 1 := ⟨k - 1, by omega⟩
    simp only [spec_l04Derived.l0]; rw [if_pos (by omega)]
    refine spD1 h j (by omega) _ s (10 * d + 1) k 0 acc (by omega) (by omega) (by omega) (by omega) (fun k' hk' => ?_)
    rw [← dRows_eq, ih k' (j + 1) _ (by omega) (by omega) hk' (by simp [dRows]; omega), List.append_assoc, List.range'_succ, List.flatMap_cons]
theorem spD_eq {n : Int} {s : Nat} {l t : List (List Int)} (h : okC n l s t = true) (k : Nat) (hk : 200 < k) : spec_l04Derived.f k n l s t = some (n * s, dE s l t) := by
  obtain ⟨⟨h1, h2, h3, h4⟩, ⟨h5, h6⟩, h7, h8⟩ := okC_parts h
  have g1 : 0 ≤ n * (s : Int) := Int.mul_nonneg (by omega) (Int.natCast_nonneg _)
  have g2 : n * (s : Int) ≤ 8 * 4 := Int.mul_le_mul (by omega) (by omega) (Int.natCast_nonneg _) (by omega)
  have := spD0 (N := n * s) h l.length k 0 [] rfl (Nat.zero_le _) (by omega) (by simp; omega)
  unfold spec_l04Derived.f dE
  rw [w64 (by omega) (by omega), List.range_eq_range']
  exact this
theorem imD1 {n N L : Int} {s : Nat} {l t : List (List Int)} (h : okC n l s t = true) (j : Nat) (hj : j < l.length) (R : Int × List (List Int)) : ∀ (d K k i : Nat) (acc : List (List Int)), s - i = d → i ≤ s → K + d + 1 ≤ k → acc.length + d ≤ 1000 →
    (∀ k', K ≤ k' → impl_Cover_derived.l0 k' l L ((j + 1 : Nat) : Int) n l s t N (acc ++ (List.range' i d).map (dRow s (l.getD j []) (t.getD j []))) = some R) → impl_Cover_derived.l1 k j (l.getD j []) l L j s i n l s t N acc = some R := by
  obtain ⟨⟨h1, h2, h3, h4⟩, ⟨h5, h6⟩, h7, h8⟩ := okC_parts h
  have he := h4 _ (getD_mem hj)
  have ht := h8 _ (getD_mem (h7 ▸ hj : j < t.length))
  have hgt : rd_L1 t j = t.getD j [] := by unfold rd_L1; rw [Int.toNat_natCast]
  intro d
  induction d with
  | zero =>
    intro K k i acc hd hi hk hA H
    obtain ⟨k, rfl⟩ : ∃ m, k = m + 1 := ⟨k - 1, by omega⟩
    simp only [impl_Cover_derived.l1]; rw [if_neg (by omega), w64 (by omega) (by omega)]
    have := H k (by omega)
    rw [List.range'_zero, List.map_nil, List.append_nil] at this
    exact this
  | succ d ih =>
    intro K k i acc hd hi hk hA H
    obtain ⟨k, rfl⟩ : ∃ m, k = m + 1 := ⟨k - 1, by omega⟩
    have hin := okPerm_in ht.2 _ (rd_mem (show i < (t.getD j []).length by omega))
    simp only [impl_Cover_derived.l1]; rw [hgt]
    rw [if_pos (by omega), if_pos (by omega), if_pos (by omega), if_pos (by omega), if_pos (by omega), if_pos (by omega), if_pos (by omega), if_pos (by omega)]
    rw [w64 (x := (i : Int) + 1) (by omega) (by omega), small_row h2 he.2.1 (by omega) (by omega), small_row h2 he.2.2 (by omega) hin]
    refine ih K k (i + 1) _ (by omega) (by omega) (by omega) (by simp; omega) (fun k' hk' => ?_)
    have := H k' hk'
    rw [List.range'_succ, List.map_cons] at this
    rw [List.append_assoc]
    exact this
theorem imD0 {n N : Int} {s : Nat} {l t : List (List Int)} (h : okC n l s t = true) : ∀ (d k j : Nat) (acc : List (List Int)), l.length - j = d → j ≤ l.length → 10 * d + 1 ≤ k → acc.length + 4 * d ≤ 900 →
    impl_Cover_derived.l0 k l l.length j n l s t N acc = some (N, acc ++ (List.range' j d).flatMap (dRows s l t)) := by
  obtain ⟨⟨h1, h2, h3, h4⟩, ⟨h5, h6⟩, h7, h8⟩ := okC_parts h
  intro d
  induction d with
  | zero =>
    intro k j acc hd hj hk hA
    obtain ⟨k, rfl⟩ : ∃ m, k = m + 1 := ⟨k - 1, by omega⟩
    simp only [impl_Cover_derived.l0]; rw [if_neg (by omega)]; simp
  | succ d ih =>
    intro k j acc hd hj hk hA
    obtain ⟨k, rfl⟩ : ∃ m, k = m + 1 := ⟨k - 1, by omega⟩
    have hge : rd_L1 l j = l.getD j [] := by unfold rd_L1; rw [Int.toNat_natCast]
    simp only [impl_Cover_derived.l0]; rw [if_pos (by omega), if_pos (by omega), if_pos (by omega), hge]
    refine imD1 h j (by omega) _ s (10 * d + 1) k 0 acc (by omega) (by omega) (by omega) (by omega) (fun k' hk' => ?_)
    rw [← dRows_eq, ih k' (j + 1) _ (by omega) (by omega) hk' (by simp [dRows]; omega), List.append_assoc, List.range'_succ, List.flatMap_cons]
theorem imD_eq {n : Int} {s : Nat} {l t : List (List Int)} (h : okC n l s t = true) (k : Nat) (hk : 200 < k) : impl_Cover_derived.f k n l s t = some (n * s, dE s l t) := by
  obtain ⟨⟨h1, h2, h3, h4⟩, ⟨h5, h6⟩, h7, h8⟩ := okC_parts h
  have g1 : 0 ≤ n * (s : Int) := Int.mul_nonneg (by omega) (Int.natCast_nonneg _)
  have g2 : n * (s : Int) ≤ 8 * 4 := Int.mul_le_mul (by omega) (by omega) (Int.natCast_nonneg _) (by omega)
  have := imD0 (N := n * s) h l.length k 0 [] rfl (Nat.zero_le _) (by omega) (by simp; omega)
  unfold impl_Cover_derived.f dE
  rw [w64 (by omega) (by omega), List.range_eq_range']
  exact this
end Go.Proofs.Ytjmglannhkfbmaa.PQuot
namespace Go.Proofs.Ytjmglannhkfbmaa.PQuot
open Go.RowKit Go.Proofs.YtjmglannhkfbmaaW.PrintWords
open Go.Proofs.YtjmglannhkfbmaaLA
set_option linter.unusedVariables false
-- answers with enough rounds; numbers up to multiples of 2^64; matrices as rows
def Ef {α : Type} (F : Nat → Option α) (y : α) : Prop := ∃ k0, ∀ k, k0 ≤ k → F k = some y
theorem Ef.ret {α : Type} (y : α) : Ef (fun _ => some y) y := ⟨0, fun _ _ => rfl⟩
theorem Ef.step {α : Type} {F G : Nat → Option α} {y : α} (h : ∀ k, F (k + 1) = G k) (hG : Ef G y) : Ef F y := by
  obtain ⟨k0, hG⟩ := hG
  refine ⟨k0 + 1, fun k hk => ?_⟩
  obtain ⟨m, rfl⟩ : ∃ m, k = m + 1 := ⟨k - 1, by omega⟩
  rw [h, hG m (by omega)]
theorem Ef.congr {α : Type} {F G : Nat → Option α} {y : α} (h : ∀ k, F k = G k) (hG : Ef G y) : Ef F y := by
  have : F = G := funext h
  rw [this]; exact hG
theorem Ef.bind {α β : Type} {F : Nat → Option α} {H : Nat → α → Option β} {y : α} {r : β} (hF : Ef F y) (hH : Ef (fun k => H k y) r) : Ef (fun k => (F k).bind (H k)) r := by
  obtain ⟨k0, hF⟩ := hF
  obtain ⟨k1, hH⟩ := hH
  exact ⟨max k0 k1, fun k hk => by show (F k).bind (H k) = _; rw [hF k (by omega)]; exact hH k (by omega)⟩
theorem Ef.pos {α : Type} {c : Prop} [Decidable c] {F G : Nat → Option α} {y : α} (h : c) (hF : Ef F y) : Ef (fun k => if c then F k else G k) y := by
  simp only [if_pos h]; exact hF
theorem Ef.neg {α : Type} {c : Prop} [Decidable c] {F G : Nat → Option α} {y : α} (h : ¬ c) (hG : Ef G y) : Ef (fun k => if c then F k else G k) y := by
  simp only [if_neg h]; exact hG
theorem Ef.le {α : Type} {F : Nat → Option α} {y : α} (k0 : Nat) (h : ∀ k, k0 < k → F k = some y) : Ef F y := ⟨k0 + 1, fun k hk => h k (by omega)⟩
theorem wr_eq {a b : Int} (h : (a - b) % 18446744073709551616 = 0) : wrap64 a = wrap64 b := by unfold wrap64; omega
theorem wr_self (a : Int) : (wrap64 a - a) % 18446744073709551616 = 0 := by unfold wrap64; omega
theorem wr_wr (a : Int) : wrap64 (wrap64 a) = wrap64 a := wr_eq (wr_self a)
theorem wr_add (a b : Int) : wrap64 (wrap64 a + wrap64 b) = wrap64 (a + b) := by unfold wrap64; omega
theorem wr_add_l (a b : Int) : wrap64 (wrap64 a + b) = wrap64 (a + b) := by unfold wrap64; omega
theorem wr_neg (a : Int) : wrap64 (-wrap64 a) = wrap64 (-a) := by unfold wrap64; omega
theorem wr_mul_r (a b : Int) : wrap64 (a * wrap64 b) = wrap64 (a * b) := by
  refine wr_eq ?_
  have h := wr_self b
  rw [← Int.mul_sub]
  obtain ⟨c, hc⟩ := Int.dvd_of_emod_eq_zero h
  rw [hc, Int.mul_left_comm]
  exact Int.mul_emod_right _ _
theorem wr_mul_l (a b : Int) : wrap64 (wrap64 a * b) = wrap64 (a * b) := by rw [Int.mul_comm, wr_mul_r, Int.mul_comm]
theorem wr_mul (a b : Int) : wrap64 (wrap64 a * wrap64 b) = wrap64 (a * b) := by rw [wr_mul_l, wr_mul_r]
theorem wr_id {x : Int} (h : x.natAbs ≤ 9223372036854775807) : wrap64 x = x := by unfold wrap64; omega
theorem wr_zero (f : Nat → Int) : wrap64 (sm 0 f) = 0 := by show wrap64 0 = 0; unfold wrap64; omega
theorem wr_sm (n : Nat) {f g : Nat → Int} (h : ∀ i, i < n → wrap64 (f i) = wrap64 (g i)) : wrap64 (sm n f) = wrap64 (sm n g) := by
  induction n with
  | zero => rfl
  | succ n ih =>
    show wrap64 (sm n f + f n) = wrap64 (sm n g + g n)
    rw [← wr_add, ih fun i hi => h i (by omega), h n (by omega), wr_add]
abbrev mat (A : Nat → Nat → Int) (n : Nat) : List (List Int) := lst (fun i => lst (A i) n) n
theorem rd_lst (F : Nat → Int) {n i : Nat} (h : i < n) : rd (lst F n) i = F i := by unfold rd; rw [Int.toNat_natCast]; exact lst_get F 0 h
theorem rd_mat (G : Nat → List Int) {n i : Nat} (h : i < n) : rd_L1 (lst G n) i = G i := by unfold rd_L1; rw [Int.toNat_natCast]; exact lst_get G [] h
theorem mat_congr {A B : Nat → Nat → Int} {n : Nat} (h : ∀ i j, i < n → j < n → A i j = B i j) : mat A n = mat B n := lst_congr fun i hi => lst_congr fun j hj => h i j hi hj
theorem mat_set (A : Nat → Nat → Int) {n i : Nat} (j : Nat) (v : Int) (hi : i < n) : (mat A n).set i ((lst (A i) n).set j v) = mat (fun p q => if p = i ∧ q = j then v else A p q) n := by
  rw [lst_set, lst_set]
  refine lst_congr fun p hp => ?_
  by_cases e : p = i
  · subst e; rw [if_pos rfl]; exact lst_congr fun q _ => by
      dsimp only
      by_cases e : q = j
      · rw [if_pos e, if_pos ⟨rfl, e⟩]
      · rw [if_neg e, if_neg fun h => e h.2]
  · rw [if_neg e]; exact lst_congr fun q _ => by dsimp only; rw [if_neg fun h => e h.1]
end Go.Proofs.Ytjmglannhkfbmaa.PQuot
namespace Go.Proofs.Ytjmglannhkfbmaa.PQuot
open Go.RowKit Go.Proofs.YtjmglannhkfbmaaW.PrintWords
open Go.Proofs.YtjmglannhkfbmaaLA
set_option linter.unusedVariables false
-- the rows of zeros, products of rows, traces, and the trims
theorem sq_loop (n : Nat) (hn : n ≤ 1000) : ∀ (d i : Nat), n - i = d → i ≤ n → Ef (fun k => impl_square.l0 k n (lst (fun _ => List.replicate n 0) i) n i) (mat (fun _ _ => 0) n)
  | 0, i, hd, hi => by
    obtain rfl : i = n := by omega
    refine Ef.step (fun k => by rw [impl_square.l0]) (Ef.neg (by omega) ?_)
    rw [lst_rep (0 : Int)]; exact Ef.ret _
  | d + 1, i, hd, hi => by
    refine Ef.step (fun k => by rw [impl_square.l0]) (Ef.pos (by omega) (Ef.pos (by omega) (Ef.pos (by omega) (Ef.pos (by rw [lst_len]; omega) ?_))))
    rw [w64 (x := (i : Int) + 1) (by omega) (by omega), Int.toNat_natCast, ← lst_succ (fun _ => List.replicate n (0 : Int)) i, show (i : Int) + 1 = ((i + 1 : Nat) : Int) by omega]
    exact sq_loop n hn d (i + 1) (by omega) (by omega)
theorem sq_eq (n : Nat) (hn : n ≤ 1000) : Ef (fun k => impl_square.f k n) (mat (fun _ _ => 0) n) := by
  unfold impl_square.f
  exact sq_loop n hn n 0 rfl (Nat.zero_le _)
theorem tr_loop (A : Nat → Nat → Int) (n : Nat) (hn : n ≤ 1000) : ∀ (d i : Nat), n - i = d → i ≤ n → Ef (fun k => impl_trace.l0 k (wrap64 (sm i (fun t => A t t))) (mat A n) n i) (wrap64 (sm n (fun t => A t t)))
  | 0, i, hd, hi => by
    obtain rfl : i = n := by omega
    exact Ef.step (fun k => by rw [impl_trace.l0]) (Ef.neg (by omega) (Ef.ret _))
  | d + 1, i, hd, hi => by
    refine Ef.step (fun k => by rw [impl_trace.l0]) (Ef.pos (by omega) (Ef.pos (by omega) (Ef.pos (by rw [lst_len]; omega) ?_)))
    rw [rd_mat _ (by omega), rd_lst _ (by omega)]
    refine Ef.pos (by rw [lst_len]; omega) ?_
    rw [w64 (x := (i : Int) + 1) (by omega) (by omega), wr_add_l, show (i : Int) + 1 = ((i + 1 : Nat) : Int) by omega]
    exact tr_loop A n hn d (i + 1) (by omega) (by omega)
theorem tr_eq (A : Nat → Nat → Int) (n : Nat) (hn : n ≤ 1000) : Ef (fun k => impl_trace.f k (mat A n)) (wrap64 (sm n (fun t => A t t))) := by
  unfold impl_trace.f
  rw [lst_len]
  have := tr_loop A n hn n 0 rfl (Nat.zero_le _)
  rw [wr_zero] at this
  exact this
def rt (A B : Nat → Nat → Int) (n : Nat) (i k j : Nat) : Nat → Nat → Int := fun p q => if p < i then wrap64 (sm n (fun t => A p t * B t q)) else if p = i then wrap64 (sm k (fun t => A p t * B t q) + if q < j then A p k * B k q else 0) else 0
theorem rt_l2 (A B : Nat → Nat → Int) (n : Nat) (hn : n ≤ 1000) (i t : Nat) (hi : i < n) (ht : t < n) (R : List (List Int)) (X15 : List (List Int)) (X22 : List Int) (x16 x23 : Int) :
    Ef (fun k => impl_rowsTimes.l1 k (mat B n) (mat (rt A B n i t n) n) i X15 x16 i X22 x23 ((t + 1 : Nat) : Int)) R →
    ∀ (d j : Nat), n - j = d → j ≤ n → Ef (fun k => impl_rowsTimes.l2 k (mat B n) (mat (rt A B n i t j) n) i (A i t) X15 x16 i X22 x23 t (lst (B t) n) n j) R
  | H, 0, j, hd, hj => by
    obtain rfl : j = n := by omega
    refine Ef.step (fun k => by rw [impl_rowsTimes.l2]) (Ef.neg (by omega) ?_)
    rw [w64 (x := (t : Int) + 1) (by omega) (by omega), show (t : Int) + 1 = ((t + 1 : Nat) : Int) by omega]
    exact H
  | H, d + 1, j, hd, hj => by
    refine Ef.step (fun k => by rw [impl_rowsTimes.l2]) (Ef.pos (by omega) (Ef.pos (by omega) (Ef.pos (by rw [lst_len]; omega) (Ef.pos (by omega) (Ef.pos (by rw [lst_len]; omega) ?_)))))
    rw [rd_mat _ hi]
    refine Ef.pos (by rw [lst_len]; omega) ?_
    rw [rd_lst _ (by omega), rd_lst _ (by omega), w64 (x := (j : Int) + 1) (by omega) (by omega), Int.toNat_natCast, Int.toNat_natCast, mat_set _ _ _ hi, show (j : Int) + 1 = ((j + 1 : Nat) : Int) by omega]
    rw [show mat (fun p q => if p = i ∧ q = j then wrap64 (rt A B n i t j i j + wrap64 (A i t * B t j)) else rt A B n i t j p q) n = mat (rt A B n i t (j + 1)) n from mat_congr fun p q hp hq => ?_]
    · exact rt_l2 A B n hn i t hi ht R X15 X22 x16 x23 H d (j + 1) (by omega) (by omega)
    · unfold rt
      by_cases e : p = i ∧ q = j
      · obtain ⟨rfl, rfl⟩ := e
        rw [if_pos ⟨rfl, rfl⟩, if_neg (Nat.lt_irrefl _), if_pos rfl, if_neg (Nat.lt_irrefl _), if_neg (Nat.lt_irrefl _), if_pos rfl, if_pos (Nat.lt_succ_self _), Int.add_zero, wr_add]
      · rw [if_neg e]
        by_cases e1 : p < i
        · rw [if_pos e1, if_pos e1]
        · rw [if_neg e1, if_neg e1]
          by_cases e2 : p = i
          · rw [if_pos e2, if_pos e2]
            have : q < j ↔ q < j + 1 := by omega
            by_cases e3 : q < j
            · rw [if_pos e3, if_pos (this.mp e3)]
            · rw [if_neg e3, if_neg fun h => e3 (this.mpr h)]
          · rw [if_neg e2, if_neg e2]
theorem rt_next (A B : Nat → Nat → Int) (n i t : Nat) : mat (rt A B n i t n) n = mat (rt A B n i (t + 1) 0) n := mat_congr fun p q hp hq => by
  unfold rt
  by_cases e1 : p < i
  · rw [if_pos e1, if_pos e1]
  · rw [if_neg e1, if_neg e1]
    by_cases e2 : p = i
    · rw [if_pos e2, if_pos e2, if_pos hq, if_neg (Nat.not_lt_zero _), Int.add_zero]; rfl
    · rw [if_neg e2, if_neg e2]
theorem rt_l1 (A B : Nat → Nat → Int) (n : Nat) (hn : n ≤ 1000) (i : Nat) (hi : i < n) (R : List (List Int)) (X15 : List (List Int)) (x16 : Int) :
    Ef (fun k => impl_rowsTimes.l0 k (mat B n) (mat (rt A B n i n 0) n) X15 x16 ((i + 1 : Nat) : Int)) R →
    ∀ (d t : Nat), n - t = d → t ≤ n → Ef (fun k => impl_rowsTimes.l1 k (mat B n) (mat (rt A B n i t 0) n) i X15 x16 i (lst (A i) n) n t) R
  | H, 0, t, hd, ht => by
    obtain rfl : t = n := by omega
    refine Ef.step (fun k => by rw [impl_rowsTimes.l1]) (Ef.neg (by omega) ?_)
    rw [w64 (x := (i : Int) + 1) (by omega) (by omega), show (i : Int) + 1 = ((i + 1 : Nat) : Int) by omega]
    exact H
  | H, d + 1, t, hd, ht => by
    have ih := rt_l1 A B n hn i hi R X15 x16 H d (t + 1) (by omega) (by omega)
    refine Ef.step (fun k => by rw [impl_rowsTimes.l1]) (Ef.pos (by omega) (Ef.pos (by omega) (Ef.pos (by rw [lst_len]; omega) ?_)))
    rw [rd_lst _ (show t < n by omega)]
    by_cases hz : A i t = 0
    · refine Ef.pos hz ?_
      rw [w64 (x := (t : Int) + 1) (by omega) (by omega), show (t : Int) + 1 = ((t + 1 : Nat) : Int) by omega]
      rw [show mat (rt A B n i t 0) n = mat (rt A B n i (t + 1) 0) n from mat_congr fun p q hp hq => ?_]
      · exact ih
      · unfold rt
        by_cases e1 : p < i
        · rw [if_pos e1, if_pos e1]
        · rw [if_neg e1, if_neg e1]
          by_cases e2 : p = i
          · rw [if_pos e2, if_pos e2, if_neg (Nat.not_lt_zero _), if_neg (Nat.not_lt_zero _), Int.add_zero, Int.add_zero]
            subst e2
            show _ = wrap64 (sm t (fun t => A p t * B t q) + A p t * B t q)
            rw [hz, Int.zero_mul, Int.add_zero]
          · rw [if_neg e2, if_neg e2]
    · refine Ef.neg hz (Ef.pos (by rw [lst_len]; omega) ?_)
      rw [rd_mat _ (by omega), lst_len]
      refine rt_l2 A B n hn i t hi (by omega) R X15 _ x16 _ ?_ n 0 rfl (Nat.zero_le _)
      rw [rt_next]
      exact ih
theorem rt_l0 (A B : Nat → Nat → Int) (n : Nat) (hn : n ≤ 1000) : ∀ (d i : Nat), n - i = d → i ≤ n → Ef (fun k => impl_rowsTimes.l0 k (mat B n) (mat (rt A B n i 0 0) n) (mat A n) n i) (mat (fun p q => wrap64 (sm n (fun t => A p t * B t q))) n)
  | 0, i, hd, hi => by
    obtain rfl : i = n := by omega
    refine Ef.step (fun k => by rw [impl_rowsTimes.l0]) (Ef.neg (by omega) ?_)
    rw [show mat (rt A B i i 0 0) i = mat (fun p q => wrap64 (sm i (fun t => A p t * B t q))) i from mat_congr fun p q hp hq => by unfold rt; rw [if_pos hp]]
    exact Ef.ret _
  | d + 1, i, hd, hi => by
    refine Ef.step (fun k => by rw [impl_rowsTimes.l0]) (Ef.pos (by omega) (Ef.pos (by omega) (Ef.pos (by rw [lst_len]; omega) ?_)))
    rw [rd_mat _ (show i < n by omega), lst_len]
    refine rt_l1 A B n hn i (by omega) _ _ _ ?_ n 0 rfl (Nat.zero_le _)
    rw [show mat (rt A B n i n 0) n = mat (rt A B n (i + 1) 0 0) n from mat_congr fun p q hp hq => ?_]
    · exact rt_l0 A B n hn d (i + 1) (by omega) (by omega)
    · unfold rt
      by_cases e1 : p < i
      · rw [if_pos e1, if_pos (by omega)]
      · rw [if_neg e1]
        by_cases e2 : p = i
        · rw [if_pos e2, if_pos (show p < i + 1 by omega), if_neg (Nat.not_lt_zero _), Int.add_zero]
        · rw [if_neg e2, if_neg (show ¬ p < i + 1 by omega)]
          by_cases e3 : p = i + 1
          · rw [if_pos e3, if_neg (Nat.not_lt_zero _), Int.add_zero, wr_zero]
          · rw [if_neg e3]
theorem rt_eq (A B : Nat → Nat → Int) (n : Nat) (hn : n ≤ 1000) : Ef (fun k => impl_rowsTimes.f k (mat A n) (mat B n)) (mat (fun p q => wrap64 (sm n (fun t => A p t * B t q))) n) := by
  unfold impl_rowsTimes.f
  rw [lst_len]
  refine Ef.bind (sq_eq n hn) ?_
  have := rt_l0 A B n hn n 0 rfl (Nat.zero_le _)
  rw [show mat (rt A B n 0 0 0) n = mat (fun _ _ => 0) n from mat_congr fun p q hp hq => ?_] at this
  · exact this
  · unfold rt
    rw [if_neg (Nat.not_lt_zero _)]
    by_cases e : p = 0
    · rw [if_pos e, if_neg (Nat.not_lt_zero _), Int.add_zero, wr_zero]
    · rw [if_neg e]
theorem imTrim (l : List Int) (hl : l.length ≤ 1000) : ∀ (n : Nat), n ≤ l.length → Ef (fun k => impl_trimmed.l0 k (l.take n)) (l.take (tn l n))
  | 0, h => by
    refine Ef.step (fun k => by rw [impl_trimmed.l0]) (Ef.neg (by simp) ?_)
    refine Ef.congr (fun k => ?_) (Ef.ret _)
    unfold slices_Clone_int64_int64.f; rw [if_pos (by simp)]; rfl
  | n + 1, h => by
    have hlen : (l.take (n + 1)).length = n + 1 := by rw [List.length_take]; omega
    have hr : rd (l.take (n + 1)) n = l.getD n 0 := by
      unfold rd
      rw [Int.toNat_natCast, List.getD_eq_getElem?_getD, List.getElem?_take, if_pos (Nat.lt_succ_self n), List.getD_eq_getElem?_getD]
    refine Ef.step (fun k => by rw [impl_trimmed.l0]) ?_
    rw [hlen, w64 (x := ((n + 1 : Nat) : Int) - 1) (by omega) (by omega), show ((n + 1 : Nat) : Int) - 1 = (n : Int) by omega, hr]
    refine Ef.pos (by omega) (Ef.pos (by omega) (Ef.pos (by omega) ?_))
    unfold tn
    by_cases e : l.getD n 0 = 0
    · rw [if_pos e]
      refine Ef.pos e (Ef.pos (by omega) ?_)
      rw [Int.toNat_natCast, List.take_take, Nat.min_eq_left (Nat.le_succ n)]
      exact imTrim l hl n (by omega)
    · rw [if_neg e]
      refine Ef.neg e ?_
      refine Ef.congr (fun k => ?_) (Ef.ret _)
      unfold slices_Clone_int64_int64.f; rw [if_pos (by omega)]; rfl
theorem imTrim_eq (l : List Int) (hl : l.length ≤ 1000) : Ef (fun k => impl_trimmed.f k l) (trim l) := by
  have := imTrim l hl l.length (Nat.le_refl _)
  rw [List.take_length] at this
  exact this
theorem spOwn (l : List Int) (hl : l.length ≤ 1000) : spec_l01Own.f l = some l := by
  unfold spec_l01Own.f
  rw [Option.bind_some, if_pos (by simp; omega), List.nil_append]
theorem spTrim (l : List Int) (hl : l.length ≤ 1000) : ∀ (n : Nat), n ≤ l.length → Ef (fun k => spec_l01Trim.l0 k l n) (l.take (tn l n))
  | 0, h => by
    refine Ef.step (fun k => by rw [spec_l01Trim.l0]) (Ef.neg (by simp) (Ef.pos (by simp) (Ef.pos (by simp) ?_)))
    rw [spOwn _ (by simp)]
    exact Ef.ret _
  | n + 1, h => by
    refine Ef.step (fun k => by rw [spec_l01Trim.l0]) ?_
    rw [w64 (x := ((n + 1 : Nat) : Int) - 1) (by omega) (by omega), show ((n + 1 : Nat) : Int) - 1 = (n : Int) by omega, show rd l (n : Int) = l.getD n 0 by unfold rd; rw [Int.toNat_natCast]]
    refine Ef.pos (by omega) (Ef.pos (by omega) (Ef.pos (by omega) ?_))
    unfold tn
    by_cases e : l.getD n 0 = 0
    · rw [if_pos e]
      exact Ef.pos e (spTrim l hl n (by omega))
    · rw [if_neg e]
      refine Ef.neg e (Ef.pos (by omega) (Ef.pos (by omega) ?_))
      rw [Int.toNat_natCast, spOwn _ (by rw [List.length_take]; omega)]
      exact Ef.ret _
theorem spTrim_eq (l : List Int) (hl : l.length ≤ 1000) : Ef (fun k => spec_l01Trim.f k l) (trim l) := spTrim l hl l.length (Nat.le_refl _)
end Go.Proofs.Ytjmglannhkfbmaa.PQuot
namespace Go.Proofs.Ytjmglannhkfbmaa.PQuot
open Go.RowKit Go.Proofs.YtjmglannhkfbmaaW.PrintWords
open Go.Proofs.YtjmglannhkfbmaaLA
set_option linter.unusedVariables false
-- the program's determinant (with divisions) is the determinant polynomial
def dc (n : Nat) (A : Nat → Nat → Int) : Nat → Int := dp n A
def bc (A : Nat → Nat → Int) (r : Nat) : Nat → Int := bt_ A r
theorem dc_zero (n : Nat) (A : Nat → Nat → Int) : dc n A 0 = 1 := dp_zero n A
theorem dc_deg (n : Nat) (A : Nat → Nat → Int) (k : Nat) (h : n < k) : dc n A k = 0 := dp_deg n A k h
theorem dc_newton (n : Nat) (A : Nat → Nat → Int) (j : Nat) : sm n (fun t => mulm n A (nr n A j) t t) = -(((j + 1 : Nat) : Int) * dc n A (j + 1)) := by
  have h2 := dp_newton n A j
  rw [nm_int] at h2
  show _ = -(((j + 1 : Nat) : Int) * dp n A (j + 1))
  rw [h2]; exact (Int.neg_neg _).symm
def Pw (n : Nat) (A : Nat → Nat → Int) : Nat → Nat → Nat → Int
  | 0 => fun _ _ => 0
  | j + 1 => nr n A j
theorem pw_step (n : Nat) (A : Nat → Nat → Int) (j p q : Nat) (hp : p < n) (hq : q < n) : sm n (fun t => A p t * Pw n A j t q) + (if p = q then dc n A j else 0) = nr n A j p q := by
  cases j with
  | zero =>
    rw [nr_zero n A p q hp hq]
    have : sm n (fun t => A p t * Pw n A 0 t q) = 0 := sm_zero' fun t _ => Int.mul_zero _
    rw [this, Int.zero_add]
    unfold idm
    rw [dc_zero]; rfl
  | succ j => exact (nr_step n A j p q hp hq).symm
theorem dt_l1 (A : Nat → Nat → Int) (n : Nat) (hn : n ≤ 1000) (j : Nat) (hj : j ≤ n) (M : Nat → Nat → Int) (R : List Int) (H : Ef (fun k => impl_determinant.l1 k (mat A n) (lst (dc n A) (j + 1)) (mat (fun p q => if p = q ∧ p < n then wrap64 (M p q + dc n A j) else wrap64 (M p q)) n) ((j + 1 : Nat) : Int) n n) R) :
    ∀ (d i : Nat), n - i = d → i ≤ n → Ef (fun k => impl_determinant.l1 k (mat A n) (lst (dc n A) (j + 1)) (mat (fun p q => if p = q ∧ p < i then wrap64 (M p q + dc n A j) else wrap64 (M p q)) n) ((j + 1 : Nat) : Int) n i) R
  | 0, i, hd, hi => by obtain rfl : i = n := by omega
                       exact H
  | d + 1, i, hd, hi => by
    refine Ef.step (fun k => by rw [impl_determinant.l1]) (Ef.pos (by omega) (Ef.pos (by omega) (Ef.pos (by rw [lst_len]; omega) ?_)))
    rw [rd_mat _ (by omega), rd_lst _ (by omega)]
    dsimp only
    rw [if_neg (show ¬ (i = i ∧ i < i) by omega)]
    rw [w64 (x := ((j + 1 : Nat) : Int) - 1) (by omega) (by omega), show ((j + 1 : Nat) : Int) - 1 = (j : Int) by omega, rd_lst _ (by omega), w64 (x := (i : Int) + 1) (by omega) (by omega), wr_add_l]
    refine Ef.pos (by rw [lst_len]; omega) (Ef.pos (by omega) (Ef.pos (by rw [lst_len]; omega) ?_))
    rw [Int.toNat_natCast, mat_set _ _ _ (by omega), show (i : Int) + 1 = ((i + 1 : Nat) : Int) by omega]
    rw [show mat (fun p q => if p = i ∧ q = i then wrap64 (M i i + dc n A j) else if p = q ∧ p < i then wrap64 (M p q + dc n A j) else wrap64 (M p q)) n = mat (fun p q => if p = q ∧ p < i + 1 then wrap64 (M p q + dc n A j) else wrap64 (M p q)) n from mat_congr fun p q hp hq => ?_]
    · exact dt_l1 A n hn j hj M R H d (i + 1) (by omega) (by omega)
    · by_cases e : p = i ∧ q = i
      · obtain ⟨rfl, rfl⟩ := e
        rw [if_pos ⟨rfl, rfl⟩, if_pos ⟨rfl, Nat.lt_succ_self _⟩]
      · rw [if_neg e]
        by_cases e1 : p = q ∧ p < i
        · rw [if_pos e1, if_pos ⟨e1.1, by omega⟩]
        · rw [if_neg e1, if_neg (by omega)]
theorem dt_l0 (A : Nat → Nat → Int) (n : Nat) (hn : n ≤ 900) (hb : ∀ k, (dc n A k).natAbs ≤ 1000000000000000) : ∀ (d j : Nat), n - j = d → j ≤ n → Ef (fun k => impl_determinant.l0 k (mat A n) (lst (dc n A) (j + 1)) (mat (fun p q => wrap64 (Pw n A j p q)) n) ((j + 1 : Nat) : Int)) (trim (lst (dc n A) (n + 1)))
  | 0, j, hd, hj => by
    obtain rfl : j = n := by omega
    refine Ef.step (fun k => by rw [impl_determinant.l0]) (Ef.neg (by rw [lst_len]; omega) ?_)
    exact Ef.bind (imTrim_eq _ (by rw [lst_len]; omega)) (Ef.ret _)
  | d + 1, j, hd, hj => by
    refine Ef.step (fun k => by rw [impl_determinant.l0]) (Ef.pos (by rw [lst_len]; omega) ?_)
    refine Ef.bind (rt_eq A _ n (by omega)) ?_
    rw [lst_len]
    have e0 : mat (fun p q => wrap64 (sm n (fun t => A p t * wrap64 (Pw n A j t q)))) n = mat (fun p q => if p = q ∧ p < 0 then wrap64 (sm n (fun t => A p t * Pw n A j t q) + dc n A j) else wrap64 (sm n (fun t => A p t * Pw n A j t q))) n := mat_congr fun p q hp hq => by
      rw [if_neg (by omega)]
      exact wr_sm n fun t _ => wr_mul_r _ _
    rw [e0]
    refine dt_l1 A n (by omega) j (by omega) _ _ ?_ n 0 rfl (Nat.zero_le _)
    rw [show mat (fun p q => if p = q ∧ p < n then wrap64 (sm n (fun t => A p t * Pw n A j t q) + dc n A j) else wrap64 (sm n (fun t => A p t * Pw n A j t q))) n = mat (fun p q => wrap64 (nr n A j p q)) n from mat_congr fun p q hp hq => ?_]
    · refine Ef.step (fun k => by rw [impl_determinant.l1]) (Ef.neg (by omega) ?_)
      refine Ef.bind (rt_eq A _ n (by omega)) ?_
      refine Ef.bind (tr_eq _ n (by omega)) ?_
      refine Ef.neg (by omega) (Ef.pos (by rw [lst_len]; omega) ?_)
      have e1 : wrap64 (-wrap64 (sm n (fun t => wrap64 (sm n (fun s => A t s * wrap64 (nr n A j s t)))))) = ((j + 1 : Nat) : Int) * dc n A (j + 1) := by
        rw [wr_neg]
        have h1 : wrap64 (sm n (fun t => wrap64 (sm n (fun s => A t s * wrap64 (nr n A j s t))))) = wrap64 (sm n (fun t => mulm n A (nr n A j) t t)) := wr_sm n fun t _ => by
          rw [wr_wr]; exact wr_sm n fun s _ => wr_mul_r _ _
        rw [← wr_neg, h1, wr_neg, dc_newton, Int.neg_neg]
        refine wr_id ?_
        rw [Int.natAbs_mul]
        have := Nat.mul_le_mul (show ((j + 1 : Nat) : Int).natAbs ≤ 1000 by omega) (hb (j + 1))
        omega
      rw [e1, Int.mul_tdiv_cancel_left _ (by omega), wr_id (by have := hb (j + 1); omega), ← lst_succ, w64 (x := ((j + 1 : Nat) : Int) + 1) (by omega) (by omega), show ((j + 1 : Nat) : Int) + 1 = ((j + 1 + 1 : Nat) : Int) by omega]
      exact dt_l0 A n hn hb d (j + 1) (by omega) (by omega)
    · rw [← pw_step n A j p q hp hq]
      by_cases e : p = q
      · rw [if_pos ⟨e, hp⟩, if_pos e]
      · rw [if_neg fun h => e h.1, if_neg e, Int.add_zero]
theorem imDet (A : Nat → Nat → Int) (n : Nat) (hn : n ≤ 900) (hb : ∀ k, (dc n A k).natAbs ≤ 1000000000000000) : Ef (fun k => impl_determinant.f k (mat A n)) (trim (lst (dc n A) (n + 1))) := by
  unfold impl_determinant.f
  rw [lst_len]
  refine Ef.bind (sq_eq n (by omega)) ?_
  have := dt_l0 A n hn hb n 0 rfl (Nat.zero_le _)
  have h1 : lst (dc n A) (0 + 1) = [1] := by rw [lst_one, dc_zero]
  have h2 : mat (fun p q => wrap64 (Pw n A 0 p q)) n = mat (fun _ _ => 0) n := mat_congr fun p q _ _ => by show wrap64 0 = 0; unfold wrap64; omega
  rw [h1, h2] at this
  exact this
-- Berkowitz' way is the same polynomial
theorem bk_l1 (A : Nat → Nat → Int) (n r : Nat) (hr : r < n) (hn : n ≤ 900) (X3 X5 R : List Int) (H : Ef (fun k => spec_l01Berkowitz.l2 k (mat A n) X3 r X5 (lst (fun i => A i r) r) 0) R) :
    ∀ (d i : Nat), r - i = d → i ≤ r → Ef (fun k => spec_l01Berkowitz.l1 k (mat A n) X3 r X5 (lst (fun i => A i r) i) i) R
  | 0, i, hd, hi => by
    obtain rfl : i = r := by omega
    exact Ef.step (fun k => by rw [spec_l01Berkowitz.l1]) (Ef.neg (by omega) H)
  | d + 1, i, hd, hi => by
    refine Ef.step (fun k => by rw [spec_l01Berkowitz.l1]) (Ef.pos (by omega) (Ef.pos (by omega) (Ef.pos (by rw [lst_len]; omega) (Ef.pos (by omega) ?_))))
    rw [rd_mat _ (by omega), rd_lst _ (by omega), w64 (x := (i : Int) + 1) (by omega) (by omega), show (i : Int) + 1 = ((i + 1 : Nat) : Int) by omega, ← lst_succ (fun i => A i r) i]
    exact Ef.pos (by rw [lst_len]; omega) (Ef.pos (by rw [lst_len]; omega) (bk_l1 A n r hr hn X3 X5 R H d (i + 1) (by omega) (by omega)))
theorem bk_l4 (A : Nat → Nat → Int) (n r : Nat) (hr : r < n) (hn : n ≤ 900) (X3 X5 R : List Int) (m i : Nat) (x9 : Int) (hi : i < r) (H : Ef (fun k => spec_l01Berkowitz.l3 k (mat A n) X3 r X5 (lst (fun i => wrap64 (bw A r m i)) r) m x9 (lst (fun i => wrap64 (bw A r (m + 1) i)) (i + 1)) ((i + 1 : Nat) : Int)) R) :
    ∀ (d j : Nat), r - j = d → j ≤ r → Ef (fun k => spec_l01Berkowitz.l4 k (mat A n) X3 r X5 (lst (fun i => wrap64 (bw A r m i)) r) m x9 (lst (fun i => wrap64 (bw A r (m + 1) i)) i) i (wrap64 (sm j (fun t => A i t * bw A r m t))) j) R
  | 0, j, hd, hj => by
    obtain rfl : j = r := by omega
    refine Ef.step (fun k => by rw [spec_l01Berkowitz.l4]) (Ef.neg (by omega) (Ef.pos (by rw [lst_len]; omega) ?_))
    rw [w64 (x := (i : Int) + 1) (by omega) (by omega), show (i : Int) + 1 = ((i + 1 : Nat) : Int) by omega]
    have := lst_succ (fun i => wrap64 (bw A j (m + 1) i)) i
    rw [this] at H
    exact H
  | d + 1, j, hd, hj => by
    refine Ef.step (fun k => by rw [spec_l01Berkowitz.l4]) (Ef.pos (by omega) (Ef.pos (by omega) (Ef.pos (by rw [lst_len]; omega) (Ef.pos (by omega) ?_))))
    rw [rd_mat _ (by omega), rd_lst _ (by omega), rd_lst _ (by omega), w64 (x := (j : Int) + 1) (by omega) (by omega), show (j : Int) + 1 = ((j + 1 : Nat) : Int) by omega, wr_mul_r, wr_add]
    exact Ef.pos (by rw [lst_len]; omega) (Ef.pos (by rw [lst_len]; omega) (bk_l4 A n r hr hn X3 X5 R m i x9 hi H d (j + 1) (by omega) (by omega)))
theorem bk_l3 (A : Nat → Nat → Int) (n r : Nat) (hr : r < n) (hn : n ≤ 900) (X3 R : List Int) (m : Nat) (hm : m < r) (H : Ef (fun k => spec_l01Berkowitz.l2 k (mat A n) X3 r (lst (fun i => wrap64 (bc A r i)) (m + 1 + 2)) (lst (fun i => wrap64 (bw A r (m + 1) i)) r) ((m + 1 : Nat) : Int)) R) :
    ∀ (d i : Nat), r - i = d → i ≤ r → Ef (fun k => spec_l01Berkowitz.l3 k (mat A n) X3 r (lst (fun i => wrap64 (bc A r i)) (m + 2)) (lst (fun i => wrap64 (bw A r m i)) r) m (wrap64 (sm i (fun t => A r t * bw A r m t))) (lst (fun i => wrap64 (bw A r (m + 1) i)) i) i) R
  | 0, i, hd, hi => by
    obtain rfl : i = r := by omega
    refine Ef.step (fun k => by rw [spec_l01Berkowitz.l3]) (Ef.neg (by omega) (Ef.pos (by rw [lst_len]; omega) ?_))
    rw [w64 (x := (m : Int) + 1) (by omega) (by omega), show (m : Int) + 1 = ((m + 1 : Nat) : Int) by omega, wr_neg]
    have h1 := lst_succ (fun t => wrap64 (bc A i t)) (m + 2)
    rw [show m + 2 + 1 = m + 1 + 2 by omega] at h1
    have h2 : wrap64 (bc A i (m + 2)) = wrap64 (-sm i (fun t => A i t * bw A i m t)) := by
      unfold bc bt_
      rw [if_neg (by omega), if_neg (by omega), Nat.add_sub_cancel]
    rw [h2] at h1
    rw [h1] at H
    exact H
  | d + 1, i, hd, hi => by
    refine Ef.step (fun k => by rw [spec_l01Berkowitz.l3]) (Ef.pos (by omega) (Ef.pos (by omega) (Ef.pos (by rw [lst_len]; omega) (Ef.pos (by omega) ?_))))
    rw [rd_mat _ (by omega), rd_lst _ (by omega), rd_lst _ (by omega), wr_mul_r, wr_add]
    have := bk_l4 A n r hr hn X3 (lst (fun i => wrap64 (bc A r i)) (m + 2)) R m i (wrap64 (sm i (fun t => A r t * bw A r m t) + A r i * bw A r m i)) (by omega) (bk_l3 A n r hr hn X3 R m hm H d (i + 1) (by omega) (by omega)) r 0 rfl (Nat.zero_le _)
    rw [wr_zero] at this
    exact Ef.pos (by rw [lst_len]; omega) (Ef.pos (by rw [lst_len]; omega) this)
theorem bk_l2 (A : Nat → Nat → Int) (n r : Nat) (hr : r < n) (hn : n ≤ 900) (X3 R : List Int) (H : Ef (fun k => spec_l01Berkowitz.l5 k (mat A n) X3 r (lst (fun i => wrap64 (bc A r i)) (r + 2)) (lst (fun _ => 0) (r + 2)) 0) R) :
    ∀ (d m : Nat), r - m = d → m ≤ r → Ef (fun k => spec_l01Berkowitz.l2 k (mat A n) X3 r (lst (fun i => wrap64 (bc A r i)) (m + 2)) (lst (fun i => wrap64 (bw A r m i)) r) m) R
  | 0, m, hd, hm => by
    obtain rfl : m = r := by omega
    refine Ef.step (fun k => by rw [spec_l01Berkowitz.l2]) (Ef.neg (by omega) ?_)
    rw [w64 (x := (m : Int) + 2) (by omega) (by omega), show (m : Int) + 2 = ((m + 2 : Nat) : Int) by omega, Int.toNat_natCast, lst_rep]
    exact Ef.pos (by omega) (Ef.pos (by omega) H)
  | d + 1, m, hd, hm => by
    refine Ef.step (fun k => by rw [spec_l01Berkowitz.l2]) (Ef.pos (by omega) ?_)
    have := bk_l3 A n r hr hn X3 R m (by omega) (bk_l2 A n r hr hn X3 R H d (m + 1) (by omega) (by omega)) r 0 rfl (Nat.zero_le _)
    rw [wr_zero] at this
    exact this
def bk6 (A : Nat → Nat → Int) (r i j : Nat) : Nat → Int := fun p => if p < i then wrap64 (dc (r + 1) A p) else if p = i then wrap64 (sm j (fun t => bc A r (i - t) * dc r A t)) else 0
theorem bk_prod (A : Nat → Nat → Int) (r i : Nat) : dc (r + 1) A i = sm (i + 1) (fun t => bc A r (i - t) * dc r A t) := by
  show dp (r + 1) A i = sm (i + 1) (fun t => bt_ A r (i - t) * dp r A t)
  rw [dp_border, CR.mul_comm, ps_mul]
  exact sm_congr fun t _ => Int.mul_comm _ _
theorem bk_l6 (A : Nat → Nat → Int) (n r : Nat) (hr : r < n) (hn : n ≤ 900) (R : List Int) (i : Nat) (hi : i < r + 2) (H : Ef (fun k => spec_l01Berkowitz.l5 k (mat A n) (lst (fun j => wrap64 (dc r A j)) (r + 1)) r (lst (fun i => wrap64 (bc A r i)) (r + 2)) (lst (bk6 A r (i + 1) 0) (r + 2)) ((i + 1 : Nat) : Int)) R) :
    ∀ (d j : Nat), min (r + 1) (i + 1) - j = d → j ≤ min (r + 1) (i + 1) → Ef (fun k => spec_l01Berkowitz.l6 k (mat A n) (lst (fun j => wrap64 (dc r A j)) (r + 1)) r (lst (fun i => wrap64 (bc A r i)) (r + 2)) (lst (bk6 A r i j) (r + 2)) i j) R
  | 0, j, hd, hj => by
    have hj2 : j = min (r + 1) (i + 1) := by omega
    have fin : lst (bk6 A r i j) (r + 2) = lst (bk6 A r (i + 1) 0) (r + 2) := lst_congr fun p hp => by
      unfold bk6
      by_cases e1 : p < i
      · rw [if_pos e1, if_pos (by omega)]
      · rw [if_neg e1]
        by_cases e2 : p = i
        · rw [if_pos e2, if_pos (show p < i + 1 by omega), e2, bk_prod]
          congr 1
          rw [hj2]
          refine (sm_extend (by omega) fun t h1 h2 => ?_).symm
          rw [dc_deg r A t (by omega)]; exact Int.mul_zero _
        · rw [if_neg e2, if_neg (show ¬ p < i + 1 by omega)]
          by_cases e3 : p = i + 1
          · rw [if_pos e3, wr_zero]
          · rw [if_neg e3]
    have Hn : Ef (fun k => spec_l01Berkowitz.l5 k (mat A n) (lst (fun j => wrap64 (dc r A j)) (r + 1)) r (lst (fun i => wrap64 (bc A r i)) (r + 2)) (lst (bk6 A r i j) (r + 2)) (wrap64 ((i : Int) + 1))) R := by
      rw [fin, w64 (x := (i : Int) + 1) (by omega) (by omega), show (i : Int) + 1 = ((i + 1 : Nat) : Int) by omega]; exact H
    refine Ef.step (fun k => by rw [spec_l01Berkowitz.l6]) ?_
    by_cases h1 : j < r + 1
    · exact Ef.pos (by rw [lst_len]; omega) (Ef.neg (by omega) Hn)
    · exact Ef.neg (by rw [lst_len]; omega) Hn
  | d + 1, j, hd, hj => by
    refine Ef.step (fun k => by rw [spec_l01Berkowitz.l6]) ?_
    rw [w64 (x := (i : Int) - j) (by omega) (by omega), show (i : Int) - j = ((i - j : Nat) : Int) by omega, rd_lst _ (by omega), rd_lst _ (by omega), rd_lst _ (by omega), wr_mul, w64 (x := (j : Int) + 1) (by omega) (by omega), show (j : Int) + 1 = ((j + 1 : Nat) : Int) by omega, Int.toNat_natCast, lst_set]
    refine Ef.pos (by rw [lst_len]; omega) (Ef.pos (by omega) (Ef.pos (by omega) (Ef.pos (by rw [lst_len]; omega) (Ef.pos (by omega) (Ef.pos (by rw [lst_len]; omega) (Ef.pos (by omega) ?_))))))
    rw [show lst (fun p => if p = i then wrap64 (bk6 A r i j i + wrap64 (bc A r (i - j) * dc r A j)) else bk6 A r i j p) (r + 2) = lst (bk6 A r i (j + 1)) (r + 2) from lst_congr fun p hp => ?_]
    · exact bk_l6 A n r hr hn R i hi H d (j + 1) (by omega) (by omega)
    · unfold bk6
      by_cases e : p = i
      · rw [if_pos e, e, if_neg (Nat.lt_irrefl _), if_pos rfl, if_neg (Nat.lt_irrefl _), if_pos rfl, wr_add]; rfl
      · rw [if_neg e, if_neg e, if_neg e]
theorem bk_l5 (A : Nat → Nat → Int) (n r : Nat) (hr : r < n) (hn : n ≤ 900) (R : List Int) (H : Ef (fun k => spec_l01Berkowitz.l0 k (mat A n) (lst (fun j => wrap64 (dc (r + 1) A j)) (r + 1 + 1)) ((r + 1 : Nat) : Int)) R) :
    ∀ (d i : Nat), r + 2 - i = d → i ≤ r + 2 → Ef (fun k => spec_l01Berkowitz.l5 k (mat A n) (lst (fun j => wrap64 (dc r A j)) (r + 1)) r (lst (fun i => wrap64 (bc A r i)) (r + 2)) (lst (bk6 A r i 0) (r + 2)) i) R
  | 0, i, hd, hi => by
    obtain rfl : i = r + 2 := by omega
    refine Ef.step (fun k => by rw [spec_l01Berkowitz.l5]) (Ef.neg (by rw [lst_len]; omega) ?_)
    rw [w64 (x := (r : Int) + 1) (by omega) (by omega), show (r : Int) + 1 = ((r + 1 : Nat) : Int) by omega]
    rw [show lst (bk6 A r (r + 2) 0) (r + 2) = lst (fun j => wrap64 (dc (r + 1) A j)) (r + 1 + 1) from lst_congr fun p hp => by unfold bk6; rw [if_pos hp]]
    exact H
  | d + 1, i, hd, hi => by
    refine Ef.step (fun k => by rw [spec_l01Berkowitz.l5]) (Ef.pos (by rw [lst_len]; omega) ?_)
    exact bk_l6 A n r hr hn R i (by omega) (bk_l5 A n r hr hn R H d (i + 1) (by omega) (by omega)) _ 0 rfl (Nat.zero_le _)
theorem bk_l0 (A : Nat → Nat → Int) (n : Nat) (hn : n ≤ 900) (hA : ∀ i j, wrap64 (A i j) = A i j) (hb : ∀ k, (dc n A k).natAbs ≤ 1000000000000000) : ∀ (d r : Nat), n - r = d → r ≤ n → Ef (fun k => spec_l01Berkowitz.l0 k (mat A n) (lst (fun j => wrap64 (dc r A j)) (r + 1)) r) (trim (lst (dc n A) (n + 1)))
  | 0, r, hd, hr => by
    obtain rfl : r = n := by omega
    refine Ef.step (fun k => by rw [spec_l01Berkowitz.l0]) (Ef.neg (by rw [lst_len]; omega) ?_)
    rw [show lst (fun j => wrap64 (dc r A j)) (r + 1) = lst (dc r A) (r + 1) from lst_congr fun j _ => wr_id (by have := hb j; omega)]
    exact Ef.bind (spTrim_eq _ (by rw [lst_len]; omega)) (Ef.ret _)
  | d + 1, r, hd, hr => by
    refine Ef.step (fun k => by rw [spec_l01Berkowitz.l0]) (Ef.pos (by rw [lst_len]; omega) (Ef.pos (by omega) ?_))
    rw [rd_mat _ (by omega), rd_lst _ (by omega)]
    refine Ef.pos (by rw [lst_len]; omega) ?_
    refine bk_l1 A n r (by omega) hn _ _ _ ?_ r 0 rfl (Nat.zero_le _)
    have e1 : [1, wrap64 (-A r r)] = lst (fun i => wrap64 (bc A r i)) (0 + 2) := by
      rw [lst_two]
      have h1 : wrap64 (bc A r 0) = 1 := by show wrap64 1 = 1; unfold wrap64; omega
      have h2 : bc A r 1 = -A r r := rfl
      rw [h1, h2]
    have e2 : lst (fun i => A i r) r = lst (fun i => wrap64 (bw A r 0 i)) r := lst_congr fun i _ => (hA i r).symm
    rw [e1, e2]
    refine bk_l2 A n r (by omega) hn _ _ ?_ r 0 rfl (Nat.zero_le _)
    have e3 : lst (fun _ => (0 : Int)) (r + 2) = lst (bk6 A r 0 0) (r + 2) := lst_congr fun p hp => by
      unfold bk6
      rw [if_neg (Nat.not_lt_zero _)]
      by_cases e : p = 0
      · rw [if_pos e, wr_zero]
      · rw [if_neg e]
    rw [e3]
    exact bk_l5 A n r (by omega) hn _ (bk_l0 A n hn hA hb d (r + 1) (by omega) (by omega)) _ 0 rfl (Nat.zero_le _)
theorem spDet (A : Nat → Nat → Int) (n : Nat) (hn : n ≤ 900) (hA : ∀ i j, wrap64 (A i j) = A i j) (hb : ∀ k, (dc n A k).natAbs ≤ 1000000000000000) : Ef (fun k => spec_l01Berkowitz.f k (mat A n)) (trim (lst (dc n A) (n + 1))) := by
  unfold spec_l01Berkowitz.f
  have := bk_l0 A n hn hA hb n 0 rfl (Nat.zero_le _)
  have h1 : lst (fun j => wrap64 (dc 0 A j)) (0 + 1) = [1] := by
    rw [lst_one, dc_zero]
    have : wrap64 1 = 1 := by unfold wrap64; omega
    rw [this]
  rw [h1] at this
  exact this
end Go.Proofs.Ytjmglannhkfbmaa.PQuot
namespace Go.Proofs.Ytjmglannhkfbmaa.PQuot
open Go.RowKit Go.Proofs.YtjmglannhkfbmaaW.PrintWords
open Go.Proofs.YtjmglannhkfbmaaLA
set_option linter.unusedVariables false
-- both sides' quotients
structure Dv (a b c : Nat → Int) (f g q : List Int) : Prop where
  rf : Rep a f
  rg : Rep b g
  rq : Rep c q
  pg : 0 < g.length
  pq : 0 < q.length
  len : f.length + 1 = g.length + q.length
  lf : f.length ≤ 40
  b0 : b 0 = 1
  step : ∀ k, c k = a k - sm k (fun i => b (i + 1) * c (k - (i + 1)))
  prod : ∀ k, a k = sm (k + 1) (fun i => c i * b (k - i))
  sa : ∀ k, (a k).natAbs ≤ 217000000000000
  sb : ∀ k, (b k).natAbs ≤ 217000000000000
  sc : ∀ k, (c k).natAbs ≤ 217000000000000
  bc : ∀ i j, (b i * c j).natAbs ≤ 217000000000000
  s1 : ∀ k j, j ≤ k → (sm j (fun i => b (i + 1) * c (k - (i + 1)))).natAbs ≤ 217000000000000
  s2 : ∀ k j, (sm j (fun i => c i * b (k - i))).natAbs ≤ 217000000000000
theorem nsum_mono {a b : Nat} (h : a ≤ b) (f : Nat → Nat) : nsum a f ≤ nsum b f := by
  obtain ⟨d, rfl⟩ : ∃ d, b = a + d := ⟨b - a, by omega⟩
  induction d with
  | zero => exact Nat.le_refl _
  | succ d ih => exact Nat.le_trans (ih (by omega)) (Nat.le_add_right _ _)
theorem dv_mk {F G Q : PS Int} {f g q : List Int} (hF : F = G * Q) (rf : Rep F f) (rg : Rep G g) (rq : Rep Q q) (g0 : G 0 = 1) (f0 : F 0 = 1) (hl : f.length ≤ 40) (hb : ∀ N, nrm N G * nrm N Q ≤ 217000000000000) : Dv F G Q f g q := by
  have q0 : Q 0 = 1 := by
    have : F 0 = G 0 * Q 0 := by rw [hF, ps_mul0]
    rw [f0, g0, Int.one_mul] at this; exact this.symm
  have hlen := rep_mul hF rf rg rq (by rw [g0]; decide) (by rw [q0]; decide)
  have pg := rg.pos (by rw [g0]; decide)
  have pq := rq.pos (by rw [q0]; decide)
  have n1 : ∀ N, 1 ≤ nrm (N + 1) G := fun N => by have := abs_le_nrm (N + 1) G 0 (by omega); rw [g0] at this; exact this
  have n2 : ∀ N, 1 ≤ nrm (N + 1) Q := fun N => by have := abs_le_nrm (N + 1) Q 0 (by omega); rw [q0] at this; exact this
  have hG : ∀ N, nrm (N + 1) G ≤ 217000000000000 := fun N => by have := Nat.mul_le_mul_left (nrm (N + 1) G) (n2 N); have := hb (N + 1); omega
  have hQ : ∀ N, nrm (N + 1) Q ≤ 217000000000000 := fun N => by have := Nat.mul_le_mul_right (nrm (N + 1) Q) (n1 N); have := hb (N + 1); omega
  have ab : ∀ N i j, i ≤ N → j ≤ N → (G i).natAbs * (Q j).natAbs ≤ 217000000000000 := fun N i j hi hj =>
    Nat.le_trans (Nat.mul_le_mul (abs_le_nrm (N + 1) G i (by omega)) (abs_le_nrm (N + 1) Q j (by omega))) (hb (N + 1))
  refine ⟨rf, rg, rq, pg, pq, hlen, hl, g0, fun k => quot_step hF g0 k, fun k => ?_, fun k => ?_, fun k => ?_, fun k => ?_, fun i j => ?_, fun k j hj => ?_, fun k j => ?_⟩
  · rw [hF, CR.mul_comm]; rfl
  · have h1 := abs_le_nrm (k + 1) F k (by omega)
    have h2 : nrm (k + 1) F ≤ nrm (k + 1) G * nrm (k + 1) Q := by rw [hF]; exact nrm_mul _ _ _
    exact Nat.le_trans h1 (Nat.le_trans h2 (hb _))
  · exact Nat.le_trans (abs_le_nrm (k + 1) G k (by omega)) (hG k)
  · exact Nat.le_trans (abs_le_nrm (k + 1) Q k (by omega)) (hQ k)
  · rw [Int.natAbs_mul]; exact ab (max i j) i j (by omega) (by omega)
  · refine Nat.le_trans (abs_sm _ _) ?_
    have h1 : nsum j (fun i => (G (i + 1) * Q (k - (i + 1))).natAbs) ≤ nsum j (fun i => (G (i + 1)).natAbs * nrm (k + 1) Q) := nsum_le fun i hi => by
      show (G (i + 1) * Q (k - (i + 1)) : Int).natAbs ≤ _
      rw [Int.natAbs_mul]; exact Nat.mul_le_mul_left _ (abs_le_nrm (k + 1) Q _ (by omega))
    refine Nat.le_trans h1 ?_
    rw [nsum_mul_right]
    refine Nat.le_trans (Nat.mul_le_mul_right _ ?_) (hb (k + 1))
    have h2 : nsum (j + 1) (fun i => (G i).natAbs) ≤ nrm (k + 1) G := nsum_mono (by omega) _
    rw [nsum_succ'] at h2
    omega
  · refine Nat.le_trans (abs_sm _ _) ?_
    have h1 : nsum j (fun i => (Q i * G (k - i)).natAbs) ≤ nsum j (fun i => (Q i).natAbs * nrm (k + j + 1) G) := nsum_le fun i hi => by
      show (Q i * G (k - i) : Int).natAbs ≤ _
      rw [Int.natAbs_mul]; exact Nat.mul_le_mul_left _ (abs_le_nrm (k + j + 1) G _ (by omega))
    refine Nat.le_trans h1 ?_
    rw [nsum_mul_right]
    have h2 : nsum j (fun i => (Q i).natAbs) ≤ nrm (k + j + 1) Q := nsum_mono (by omega) _
    refine Nat.le_trans (Nat.mul_le_mul_right _ h2) ?_
    rw [Nat.mul_comm]; exact hb _
theorem rd_getD (l : List Int) (k : Nat) : rd l k = l.getD k 0 := by unfold rd; rw [Int.toNat_natCast]
theorem absI (x : Int) (h : x.natAbs ≤ 1000000000000000) : impl_absolute.f x = some (x.natAbs : Int) := by
  unfold impl_absolute.f mx
  rw [w64 (by omega) (by omega)]
  congr 1
  split <;> omega
theorem ptI (s x y : Int) (hx : x.natAbs ≤ 1000000000000000) (hy : y.natAbs ≤ 1000000000000000) (h1 : (x * y).natAbs ≤ 1000000000000000) (hs : s.natAbs ≤ 1000000000000000) (h2 : (s + x * y).natAbs ≤ 1000000000000000) : Ef (fun k => impl_plusTimes.f k s x y) (s + x * y, true) := by
  unfold impl_plusTimes.f
  by_cases ex : x = 0
  · refine Ef.pos ex (Ef.step (fun k => by rw [impl_plusTimes.j0]) (Ef.pos rfl ?_))
    rw [ex, Int.zero_mul, Int.add_zero]; exact Ef.ret _
  · refine Ef.neg ex (Ef.step (fun k => by rw [impl_plusTimes.j0]) ?_)
    by_cases ey : y = 0
    · refine Ef.pos (beq_iff_eq.mpr ey) ?_
      rw [ey, Int.mul_zero, Int.add_zero]; exact Ef.ret _
    · refine Ef.neg (by rw [beq_iff_eq]; exact ey) ?_
      rw [absI x hx, absI y hy]
      refine Ef.bind (Ef.ret _) ?_
      refine Ef.bind (Ef.ret _) ?_
      refine Ef.neg (by omega) ?_
      have hle : (x.natAbs : Int) ≤ 1000000000000000 / (y.natAbs : Int) := by
        refine Int.le_ediv_of_mul_le (by omega) ?_
        rw [Int.natAbs_mul] at h1
        rw [← Int.natCast_mul]
        exact Int.ofNat_le.mpr h1
      have hlt : (1000000000000000 : Int) / (y.natAbs : Int) ≤ 1000000000000000 := Int.ediv_le_self _ (by decide)
      rw [w64 (x := (1000000000000000 : Int) / (y.natAbs : Int)) (by omega) (by omega)]
      refine Ef.neg (by omega) ?_
      rw [w64 (x := x * y) (by omega) (by omega), w64 (x := s + x * y) (by omega) (by omega)]
      unfold impl_isSmall.f
      rw [implIn, decide_eq_true (by omega), decide_eq_true (by omega)]
      exact Ef.ret _
theorem whole_loop (l : List Int) (hl : l.length ≤ 40) (hs : ∀ k, (l.getD k 0).natAbs ≤ 217000000000000) (hlast : ∀ n, l.length = n + 1 → l.getD n 0 ≠ 0) : ∀ (d i : Nat), l.length - i = d → i ≤ l.length → Ef (fun k => impl_IsWhole.l0 k l l l.length i) true
  | 0, i, hd, hi => by
    obtain rfl : i = l.length := by omega
    refine Ef.step (fun k => by rw [impl_IsWhole.l0]) (Ef.neg (by omega) (Ef.pos (by omega) ?_))
    by_cases e : l.length = 0
    · exact Ef.pos (by omega) (Ef.ret _)
    · refine Ef.neg (by omega) ?_
      rw [w64 (x := (l.length : Int) - 1) (by omega) (by omega), show (l.length : Int) - 1 = ((l.length - 1 : Nat) : Int) by omega, rd_getD]
      refine Ef.pos (by omega) (Ef.pos (by omega) ?_)
      rw [show (l.getD (l.length - 1) 0 != 0) = true from bne_iff_ne.mpr (hlast _ (by omega))]
      exact Ef.ret _
  | d + 1, i, hd, hi => by
    refine Ef.step (fun k => by rw [impl_IsWhole.l0]) (Ef.pos (by omega) (Ef.pos (by omega) (Ef.pos (by omega) ?_)))
    rw [rd_getD]
    have := hs i
    unfold impl_isSmall.f
    rw [implIn, decide_eq_true (by omega), decide_eq_true (by omega)]
    refine Ef.bind (Ef.bind (Ef.ret _) (Ef.ret _)) (Ef.pos rfl ?_)
    rw [w64 (x := (i : Int) + 1) (by omega) (by omega), show (i : Int) + 1 = ((i + 1 : Nat) : Int) by omega]
    exact whole_loop l hl hs hlast d (i + 1) (by omega) (by omega)
theorem whole_eq (l : List Int) (hl : l.length ≤ 40) (hs : ∀ k, (l.getD k 0).natAbs ≤ 217000000000000) (hlast : ∀ n, l.length = n + 1 → l.getD n 0 ≠ 0) : Ef (fun k => impl_IsWhole.f k l) true := by
  unfold impl_IsWhole.f
  exact whole_loop l hl hs hlast l.length 0 rfl (Nat.zero_le _)
theorem areWhole_two {f g : List Int} (hf : Ef (fun k => impl_IsWhole.f k f) true) (hg : Ef (fun k => impl_IsWhole.f k g) true) : Ef (fun k => impl_areWhole.f k [f, g]) true := by
  obtain ⟨k0, hf⟩ := hf
  obtain ⟨k1, hg⟩ := hg
  refine ⟨max k0 k1, fun k hk => ?_⟩
  have h1 : impl_IsWhole.f k f = some true := hf k (by omega)
  have h2 : impl_IsWhole.f k g = some true := hg k (by omega)
  unfold impl_areWhole.f impl_ContainsFunc__areWhole.f
  simp only [mapO]
  rw [h1, h2]
  rfl
end Go.Proofs.Ytjmglannhkfbmaa.PQuot
namespace Go.Proofs.Ytjmglannhkfbmaa.PQuot
open Go.RowKit Go.Proofs.YtjmglannhkfbmaaW.PrintWords
open Go.Proofs.YtjmglannhkfbmaaLA
set_option linter.unusedVariables false
-- both sides' quotients (their loops)
section
variable {a b c : Nat → Int} {f g q : List Int}
theorem Dv.rdf (h : Dv a b c f g q) (k : Nat) : rd f k = a k := (rd_getD f k).trans (h.rf.1 k)
theorem Dv.rdg (h : Dv a b c f g q) (k : Nat) : rd g k = b k := (rd_getD g k).trans (h.rg.1 k)
theorem Dv.rdq (h : Dv a b c f g q) (k : Nat) : rd q k = c k := (rd_getD q k).trans (h.rq.1 k)
theorem Dv.cut (h : Dv a b c f g q) (k : Nat) : a k - sm (min k (g.length - 1)) (fun i => b (i + 1) * c (k - (i + 1))) = c k := by
  rw [h.step k, sm_extend (n := min k (g.length - 1)) (m := k) (by omega) fun i h1 h2 => by
    rw [h.rg.zero (by omega)]; exact Int.zero_mul _]
theorem mul_l1 (h : Dv a b c f g q) (m : Nat) (hm : m < f.length) (x33 x34 : Int) (R : List Int × Bool) (H : Ef (fun k => impl_multiply.l0 k q g (lst a (m + 1)) x33 (wrap64 (x34 + 1))) R) :
    ∀ (d i : Nat), min (m + 1) q.length - i = d → m + 1 - g.length ≤ i → i ≤ min (m + 1) q.length → Ef (fun k => impl_multiply.l1 k q g (lst a m) m (sm i (fun t => c t * b (m - t))) i x33 x34) R
  | 0, i, hd, h1, hi => by
    have hl := h.lf
    have hq := h.pq
    have hlen := h.len
    have e : sm i (fun t => c t * b (m - t)) = a m := by
      rw [h.prod m]
      refine (sm_extend (by omega) fun t h2 h3 => ?_).symm
      rw [h.rq.zero (by omega)]; exact Int.zero_mul _
    refine Ef.step (fun k => by rw [impl_multiply.l1]) (Ef.neg ?_ (Ef.pos (by rw [lst_len]; omega) ?_))
    · unfold mn; rw [w64 (by omega) (by omega)]; split <;> omega
    · rw [e, ← lst_succ]; exact H
  | d + 1, i, hd, h1, hi => by
    have hl := h.lf
    have hg := h.pg
    have hlen := h.len
    refine Ef.step (fun k => by rw [impl_multiply.l1]) (Ef.pos ?_ (Ef.pos (by omega) (Ef.pos (by omega) ?_)))
    · unfold mn; rw [w64 (by omega) (by omega)]; split <;> omega
    · rw [w64 (x := (m : Int) - i) (by omega) (by omega), show (m : Int) - i = ((m - i : Nat) : Int) by omega, h.rdq, h.rdg]
      refine Ef.pos (by omega) (Ef.pos (by omega) ?_)
      have t1 := h.sc i
      have t2 := h.sb (m - i)
      have t3 := h.bc (m - i) i
      rw [Int.mul_comm] at t3
      have t4 := h.s2 m i
      have t5 := h.s2 m (i + 1)
      refine Ef.bind (ptI _ (c i) (b (m - i)) (by omega) (by omega) (by omega) (by omega) ?_) (Ef.pos rfl ?_)
      · exact Nat.le_trans t5 (by decide)
      · rw [w64 (x := (i : Int) + 1) (by omega) (by omega), show (i : Int) + 1 = ((i + 1 : Nat) : Int) by omega]
        exact mul_l1 h m hm x33 x34 R H d (i + 1) (by omega) (by omega) (by omega)
theorem mul_l0 (h : Dv a b c f g q) : ∀ (d m : Nat), f.length - m = d → m ≤ f.length → Ef (fun k => impl_multiply.l0 k q g (lst a m) f.length m) (f, true)
  | 0, m, hd, hm => by
    obtain rfl : m = f.length := by omega
    refine Ef.step (fun k => by rw [impl_multiply.l0]) (Ef.neg (by omega) ?_)
    rw [← h.rf.eq_lst]; exact Ef.ret _
  | d + 1, m, hd, hm => by
    have hl := h.lf
    have hg := h.pg
    have hq := h.pq
    have hlen := h.len
    refine Ef.step (fun k => by rw [impl_multiply.l0]) (Ef.pos (by omega) ?_)
    have hmx : mx 0 (wrap64 (wrap64 ((m : Int) - g.length) + 1)) = ((m + 1 - g.length : Nat) : Int) := by
      unfold mx
      rw [w64 (x := (m : Int) - g.length) (by omega) (by omega), w64 (by omega) (by omega)]
      split <;> omega
    rw [hmx]
    have hz : sm (m + 1 - g.length) (fun t => c t * b (m - t)) = 0 := sm_zero' fun t ht => by rw [h.rg.zero (by omega)]; exact Int.mul_zero _
    have ih := mul_l0 h d (m + 1) (by omega) (by omega)
    have := mul_l1 h m (by omega) f.length m (f, true) (by rw [w64 (x := (m : Int) + 1) (by omega) (by omega), show (m : Int) + 1 = ((m + 1 : Nat) : Int) by omega]; exact ih) _ (m + 1 - g.length) rfl (Nat.le_refl _) (by omega)
    rw [hz] at this
    exact this
theorem mul_eq (h : Dv a b c f g q) : Ef (fun k => impl_multiply.f k q g) (f, true) := by
  have hl := h.lf
  have hg := h.pg
  have hq := h.pq
  have hlen := h.len
  unfold impl_multiply.f
  refine Ef.neg (by omega) (Ef.step (fun k => by rw [impl_multiply.j0]) (Ef.neg (by rw [beq_iff_eq]; omega) ?_))
  rw [w64 (x := (q.length : Int) + g.length) (by omega) (by omega), w64 (x := (q.length : Int) + g.length - 1) (by omega) (by omega), show (q.length : Int) + g.length - 1 = (f.length : Nat) by omega]
  exact Ef.neg (by omega) (mul_l0 h f.length 0 rfl (Nat.zero_le _))
theorem equal_loop (l : List Int) (hl : l.length ≤ 1000) : ∀ (d i : Nat), l.length - i = d → i ≤ l.length → Ef (fun k => slices_Equal_int64_int64.l0 k l l l.length i) true
  | 0, i, hd, hi => Ef.step (fun k => by rw [slices_Equal_int64_int64.l0]) (Ef.neg (by omega) (Ef.ret _))
  | d + 1, i, hd, hi => by
    refine Ef.step (fun k => by rw [slices_Equal_int64_int64.l0]) (Ef.pos (by omega) (Ef.pos (by omega) (Ef.pos (by omega) (Ef.pos (by omega) (Ef.pos rfl ?_)))))
    rw [w64 (x := (i : Int) + 1) (by omega) (by omega), show (i : Int) + 1 = ((i + 1 : Nat) : Int) by omega]
    exact equal_loop l hl d (i + 1) (by omega) (by omega)
theorem equal_eq (l : List Int) (hl : l.length ≤ 1000) : Ef (fun k => slices_Equal_int64_int64.f k l l) true := by
  unfold slices_Equal_int64_int64.f
  exact Ef.pos rfl (equal_loop l hl l.length 0 rfl (Nat.zero_le _))
theorem dw_l1 (h : Dv a b c f g q) (m : Nat) (hm : m < q.length) (x42 x43 : Int) (R : List Int × Int) (H : Ef (fun k => impl_DivideWhole.l0 k f g (lst c (m + 1)) x42 (wrap64 (x43 + 1))) R) :
    ∀ (d j : Nat), min m (g.length - 1) - j = d → j ≤ min m (g.length - 1) → Ef (fun k => impl_DivideWhole.l1 k f g (lst c m) m (a m - sm j (fun i => b (i + 1) * c (m - (i + 1)))) ((j + 1 : Nat) : Int) x42 x43) R
  | 0, j, hd, hj => by
    have hl := h.lf
    have hg := h.pg
    have hlen := h.len
    have sc := h.sc m
    have e : a m - sm j (fun i => b (i + 1) * c (m - (i + 1))) = c m := by rw [show j = min m (g.length - 1) by omega]; exact h.cut m
    refine Ef.step (fun k => by rw [impl_DivideWhole.l1]) (Ef.neg ?_ (Ef.pos (by omega) (Ef.pos (by rw [lst_len]; omega) ?_)))
    · unfold mn; rw [w64 (by omega) (by omega)]; split <;> omega
    · have hg0 : rd g 0 = 1 := (h.rdg 0).trans h.b0
      rw [e, hg0, Int.mul_one, w64 (x := c m) (by omega) (by omega), ← lst_succ]
      exact H
  | d + 1, j, hd, hj => by
    have hl := h.lf
    have hg := h.pg
    have hlen := h.len
    refine Ef.step (fun k => by rw [impl_DivideWhole.l1]) (Ef.pos ?_ (Ef.pos (by omega) (Ef.pos (by omega) ?_)))
    · unfold mn; rw [w64 (by omega) (by omega)]; split <;> omega
    · have t1 := h.sc (m - (j + 1))
      have t2 := h.sb (j + 1)
      have t3 := h.bc (j + 1) (m - (j + 1))
      have t4 := h.s1 m j (by omega)
      have t5 := h.s1 m (j + 1) (by omega)
      have t6 := h.sa m
      have e : sm (j + 1) (fun i => b (i + 1) * c (m - (i + 1))) = sm j (fun i => b (i + 1) * c (m - (i + 1))) + b (j + 1) * c (m - (j + 1)) := rfl
      rw [w64 (x := (m : Int) - ((j + 1 : Nat) : Int)) (by omega) (by omega), show (m : Int) - ((j + 1 : Nat) : Int) = ((m - (j + 1) : Nat) : Int) by omega, rd_lst _ (by omega), h.rdg, w64 (x := -b (j + 1)) (by omega) (by omega)]
      refine Ef.pos (by omega) (Ef.pos (by rw [lst_len]; omega) ?_)
      refine Ef.bind (ptI _ (-b (j + 1)) (c (m - (j + 1))) (by omega) (by omega) (by rw [Int.neg_mul]; omega) (by omega) (by rw [Int.neg_mul]; omega)) (Ef.pos rfl ?_)
      rw [w64 (x := ((j + 1 : Nat) : Int) + 1) (by omega) (by omega), show ((j + 1 : Nat) : Int) + 1 = ((j + 1 + 1 : Nat) : Int) by omega]
      have := dw_l1 h m hm x42 x43 R H d (j + 1) (by omega) (by omega)
      rw [e, show a m - (sm j (fun i => b (i + 1) * c (m - (i + 1))) + b (j + 1) * c (m - (j + 1))) = a m - sm j (fun i => b (i + 1) * c (m - (i + 1))) + -b (j + 1) * c (m - (j + 1)) by rw [Int.neg_mul]; omega] at this
      exact this
theorem dw_l0 (h : Dv a b c f g q) : ∀ (d m : Nat), q.length - m = d → m ≤ q.length → Ef (fun k => impl_DivideWhole.l0 k f g (lst c m) q.length m) (q, 0)
  | 0, m, hd, hm => by
    have hl := h.lf
    have hg := h.pg
    have hq := h.pq
    have hlen := h.len
    obtain rfl : m = q.length := by omega
    refine Ef.step (fun k => by rw [impl_DivideWhole.l0]) (Ef.neg (by omega) (Ef.neg (by omega) ?_))
    rw [← h.rq.eq_lst]
    refine Ef.step (fun k => by rw [impl_DivideWhole.j3]) ?_
    refine Ef.bind (imTrim_eq q (by omega)) ?_
    rw [trim_of_rep h.rq]
    refine Ef.bind (mul_eq h) (Ef.pos rfl ?_)
    exact Ef.bind (equal_eq f (by omega)) (Ef.pos rfl (Ef.ret _))
  | d + 1, m, hd, hm => by
    have hl := h.lf
    have hg := h.pg
    have hlen := h.len
    have ih := dw_l0 h d (m + 1) (by omega) (by omega)
    refine Ef.step (fun k => by rw [impl_DivideWhole.l0]) (Ef.pos (by omega) ?_)
    have hat : impl_at.f f m = some (a m) := by
      unfold impl_at.f
      rw [if_pos (by omega), if_pos (by omega), h.rdf]
    rw [hat]
    refine Ef.bind (Ef.ret _) ?_
    have := dw_l1 h m (by omega) q.length m (q, 0) (by rw [w64 (x := (m : Int) + 1) (by omega) (by omega), show (m : Int) + 1 = ((m + 1 : Nat) : Int) by omega]; exact ih) _ 0 rfl (Nat.zero_le _)
    have e : a m - sm 0 (fun i => b (i + 1) * c (m - (i + 1))) = a m := Int.sub_zero _
    rw [e] at this
    exact this
theorem dw_eq (h : Dv a b c f g q) : Ef (fun k => impl_DivideWhole.f k f g) (q, 0) := by
  have hl := h.lf
  have hg := h.pg
  have hq := h.pq
  have hlen := h.len
  unfold impl_DivideWhole.f
  refine Ef.bind (areWhole_two (whole_eq f (by omega) (fun k => by rw [h.rf.1]; exact h.sa k) h.rf.2) (whole_eq g (by omega) (fun k => by rw [h.rg.1]; exact h.sb k) h.rg.2)) (Ef.pos rfl ?_)
  have hat : impl_at.f g 0 = some 1 := by
    unfold impl_at.f
    rw [if_pos (by omega), if_pos (by omega)]
    exact congrArg some ((h.rdg 0).trans h.b0)
  rw [hat]
  refine Ef.bind (Ef.ret _) ?_
  rw [absI 1 (by decide)]
  refine Ef.bind (Ef.ret _) (Ef.pos rfl (Ef.pos (by omega) (Ef.neg (by omega) (Ef.step (fun k => by rw [impl_DivideWhole.j0]) ?_))))
  have hmx : mx 0 (wrap64 (wrap64 ((f.length : Int) - g.length) + 1)) = (q.length : Int) := by
    unfold mx
    rw [w64 (x := (f.length : Int) - g.length) (by omega) (by omega), w64 (by omega) (by omega)]
    split <;> omega
  rw [hmx]
  exact dw_l0 h q.length 0 rfl (Nat.zero_le _)
-- the reference's way
theorem times_in (x0 x1 : List Int) (h0 : x0.length ≤ 50) (h1 : x1.length ≤ 50) (i : Nat) (hi : i < x0.length) (H : ∀ x5 : List Int, x5.length + 1 = x0.length + x1.length → ∃ p, Ef (fun k => spec_l01Times.l0 k x0 x1 x5 ((i + 1 : Nat) : Int)) p) :
    ∀ (e j : Nat) (x5 : List Int), x1.length - j = e → j ≤ x1.length → x5.length + 1 = x0.length + x1.length → ∃ p, Ef (fun k => spec_l01Times.l1 k x0 x1 x5 i j) p := by
  intro e
  induction e with
  | zero =>
    intro j x5 he hj h5
    obtain ⟨p, hp⟩ := H x5 h5
    refine ⟨p, Ef.step (fun k => by rw [spec_l01Times.l1]) (Ef.neg (by omega) ?_)⟩
    rw [w64 (x := (i : Int) + 1) (by omega) (by omega), show (i : Int) + 1 = ((i + 1 : Nat) : Int) by omega]
    exact hp
  | succ e ihe =>
    intro j x5 he hj h5
    have w1 : wrap64 ((i : Int) + j) = ((i + j : Nat) : Int) := by rw [w64 (by omega) (by omega)]; omega
    obtain ⟨p, hp⟩ := ihe (j + 1) (x5.set (i + j) (wrap64 (rd x5 ((i + j : Nat) : Int) + wrap64 (rd x0 i * rd x1 j)))) (by omega) (by omega) (by rw [List.length_set]; exact h5)
    refine ⟨p, Ef.step (fun k => by rw [spec_l01Times.l1]) ?_⟩
    rw [w1, w64 (x := (j : Int) + 1) (by omega) (by omega), show (j : Int) + 1 = ((j + 1 : Nat) : Int) by omega, Int.toNat_natCast]
    exact Ef.pos (by omega) (Ef.pos (by omega) (Ef.pos (by omega) (Ef.pos (by omega) (Ef.pos (by omega) (Ef.pos (by omega) hp)))))
theorem times_l0 (x0 x1 : List Int) (h0 : x0.length ≤ 50) (h1 : x1.length ≤ 50) : ∀ (d i : Nat) (x5 : List Int), x0.length - i = d → i ≤ x0.length → x5.length + 1 = x0.length + x1.length → ∃ p, Ef (fun k => spec_l01Times.l0 k x0 x1 x5 i) p := by
  intro d
  induction d with
  | zero =>
    intro i x5 hd hi h5
    refine ⟨trim x5, Ef.step (fun k => by rw [spec_l01Times.l0]) (Ef.neg (by omega) ?_)⟩
    exact Ef.bind (spTrim_eq x5 (by omega)) (Ef.ret _)
  | succ d ih =>
    intro i x5 hd hi h5
    obtain ⟨p, hp⟩ := times_in x0 x1 h0 h1 i (by omega) (fun x5 h5 => ih (i + 1) x5 (by omega) (by omega) h5) x1.length 0 x5 rfl (Nat.zero_le _) h5
    refine ⟨p, Ef.step (fun k => by rw [spec_l01Times.l0]) (Ef.pos (by omega) ?_)⟩
    exact hp
theorem times_any (x0 x1 : List Int) (h0 : x0.length ≤ 50) (h1 : x1.length ≤ 50) (p0 : 0 < x0.length) (p1 : 0 < x1.length) : ∃ p, Ef (fun k => spec_l01Times.f k x0 x1) p := by
  obtain ⟨p, hp⟩ := times_l0 x0 x1 h0 h1 x0.length 0 (List.replicate (x0.length + x1.length - 1) 0) rfl (Nat.zero_le _) (by rw [List.length_replicate]; omega)
  refine ⟨p, ?_⟩
  unfold spec_l01Times.f
  refine Ef.neg (by omega) (Ef.step (fun k => by rw [spec_l01Times.j0]) (Ef.neg (by rw [beq_iff_eq]; omega) ?_))
  rw [w64 (x := (x0.length : Int) + x1.length) (by omega) (by omega), w64 (x := (x0.length : Int) + x1.length - 1) (by omega) (by omega), show ((x0.length : Int) + x1.length - 1).toNat = x0.length + x1.length - 1 by omega]
  exact Ef.pos (by omega) (Ef.pos (by omega) hp)
theorem sd_l2 (x0 x6 x10 : List Int) (h0 : x0.length ≤ 1000) (h6 : x6.length ≤ 1000) : ∀ (d i : Nat) (b0 : Bool), x0.length - i = d → i ≤ x0.length → (b0 = true → x10.length = x0.length) → ∃ b1, Ef (fun k => spec_l01Divide.l2 k x0 x6 x10 b0 i) (trim x6, b1)
  | 0, i, b0, hd, hi, hb => ⟨b0, by
      refine Ef.step (fun k => by rw [spec_l01Divide.l2]) (Ef.neg (by omega) ?_)
      exact Ef.bind (spTrim_eq x6 h6) (Ef.ret _)⟩
  | d + 1, i, b0, hd, hi, hb => by
    cases b0 with
    | false =>
      refine ⟨false, Ef.step (fun k => by rw [spec_l01Divide.l2]) (Ef.pos (by omega) (Ef.neg (by decide) ?_))⟩
      exact Ef.bind (spTrim_eq x6 h6) (Ef.ret _)
    | true =>
      have he := hb rfl
      obtain ⟨b1, hp⟩ := sd_l2 x0 x6 x10 h0 h6 d (i + 1) (rd x10 i == rd x0 i) (by omega) (by omega) (fun _ => he)
      refine ⟨b1, Ef.step (fun k => by rw [spec_l01Divide.l2]) (Ef.pos (by omega) (Ef.pos rfl (Ef.pos (by omega) (Ef.pos (by omega) ?_))))⟩
      rw [w64 (x := (i : Int) + 1) (by omega) (by omega), show (i : Int) + 1 = ((i + 1 : Nat) : Int) by omega]
      exact hp
theorem sd_l1 (h : Dv a b c f g q) (m : Nat) (hm : m < q.length) (R : List Int × Bool) (H : Ef (fun k => spec_l01Divide.l0 k f g (lst c (m + 1)) ((m + 1 : Nat) : Int)) R) :
    ∀ (d j : Nat), min m (g.length - 1) - j = d → j ≤ min m (g.length - 1) → Ef (fun k => spec_l01Divide.l1 k f g (lst c m) m (a m - sm j (fun i => b (i + 1) * c (m - (i + 1)))) ((j + 1 : Nat) : Int)) R
  | 0, j, hd, hj => by
    have hl := h.lf
    have hg := h.pg
    have hlen := h.len
    have sc := h.sc m
    have e : a m - sm j (fun i => b (i + 1) * c (m - (i + 1))) = c m := by rw [show j = min m (g.length - 1) by omega]; exact h.cut m
    have hg0 : rd g 0 = 1 := (h.rdg 0).trans h.b0
    refine Ef.step (fun k => by rw [spec_l01Divide.l1]) ?_
    rw [e, hg0, Int.mul_one, w64 (x := c m) (by omega) (by omega), ← lst_succ, w64 (x := (m : Int) + 1) (by omega) (by omega), show (m : Int) + 1 = ((m + 1 : Nat) : Int) by omega]
    by_cases h1 : j + 1 ≤ m
    · exact Ef.pos (by omega) (Ef.neg (by omega) (Ef.pos (by omega) (Ef.pos (by rw [lst_len]; omega) H)))
    · exact Ef.neg (by omega) (Ef.pos (by omega) (Ef.pos (by rw [lst_len]; omega) H))
  | d + 1, j, hd, hj => by
    have hl := h.lf
    have hg := h.pg
    have hlen := h.len
    have t3 := h.bc (j + 1) (m - (j + 1))
    have t4 := h.s1 m j (by omega)
    have t6 := h.sa m
    have e : sm (j + 1) (fun i => b (i + 1) * c (m - (i + 1))) = sm j (fun i => b (i + 1) * c (m - (i + 1))) + b (j + 1) * c (m - (j + 1)) := rfl
    refine Ef.step (fun k => by rw [spec_l01Divide.l1]) (Ef.pos (by omega) (Ef.pos (by omega) (Ef.pos (by omega) ?_)))
    rw [w64 (x := (m : Int) - ((j + 1 : Nat) : Int)) (by omega) (by omega), show (m : Int) - ((j + 1 : Nat) : Int) = ((m - (j + 1) : Nat) : Int) by omega, rd_lst _ (by omega), h.rdg, w64 (x := b (j + 1) * c (m - (j + 1))) (by omega) (by omega), w64 (x := _ - b (j + 1) * c (m - (j + 1))) (by omega) (by omega)]
    refine Ef.pos (by omega) (Ef.pos (by rw [lst_len]; omega) ?_)
    rw [w64 (x := ((j + 1 : Nat) : Int) + 1) (by omega) (by omega), show ((j + 1 : Nat) : Int) + 1 = ((j + 1 + 1 : Nat) : Int) by omega]
    have := sd_l1 h m hm R H d (j + 1) (by omega) (by omega)
    rw [e, ← Int.sub_sub] at this
    exact this
theorem sd_l0 (h : Dv a b c f g q) (R : List Int × Bool) (H : Ef (fun k => spec_l01Divide.l0 k f g q q.length) R) : ∀ (d m : Nat), q.length - m = d → m ≤ q.length → Ef (fun k => spec_l01Divide.l0 k f g (lst c m) m) R
  | 0, m, hd, hm => by
    obtain rfl : m = q.length := by omega
    rw [← h.rq.eq_lst]; exact H
  | d + 1, m, hd, hm => by
    have hl := h.lf
    have hg := h.pg
    have hlen := h.len
    have ih := sd_l0 h R H d (m + 1) (by omega) (by omega)
    refine Ef.step (fun k => by rw [spec_l01Divide.l0]) (Ef.pos (by rw [w64 (by omega) (by omega)]; omega) (Ef.pos (by omega) (Ef.pos (by omega) ?_)))
    rw [h.rdf]
    have := sd_l1 h m (by omega) R ih _ 0 rfl (Nat.zero_le _)
    have e : a m - sm 0 (fun i => b (i + 1) * c (m - (i + 1))) = a m := Int.sub_zero _
    rw [e] at this
    exact this
theorem sd_eq (h : Dv a b c f g q) : ∃ b1, Ef (fun k => spec_l01Divide.f k f g) (q, b1) := by
  have hl := h.lf
  have hg := h.pg
  have hq := h.pq
  have hlen := h.len
  obtain ⟨p, hp⟩ := times_any q g (by omega) (by omega) hq hg
  obtain ⟨b1, h2⟩ := sd_l2 f q p (by omega) (by omega) f.length 0 ((p.length : Int) == (f.length : Int)) rfl (Nat.zero_le _) (fun e => by have := beq_iff_eq.mp e; omega)
  rw [trim_of_rep h.rq] at h2
  refine ⟨b1, ?_⟩
  unfold spec_l01Divide.f
  refine Ef.neg (by omega) (Ef.neg (by omega) ?_)
  refine sd_l0 h _ ?_ q.length 0 rfl (Nat.zero_le _)
  refine Ef.step (fun k => by rw [spec_l01Divide.l0]) (Ef.neg (by rw [w64 (by omega) (by omega)]; omega) ?_)
  exact Ef.bind hp h2
end
end Go.Proofs.Ytjmglannhkfbmaa.PQuot
namespace Go.Proofs.Ytjmglannhkfbmaa.PQuot
open Go.RowKit Go.Proofs.YtjmglannhkfbmaaW.PrintWords
open Go.Proofs.YtjmglannhkfbmaaLA
set_option linter.unusedVariables false
-- both sides' edge matrices
def tlI (l : List (List Int)) (e : Nat) : Int := rd (l.getD (e / 2) []) ((e % 2 : Nat) : Int)
def tlN (l : List (List Int)) (e : Nat) : Nat := (tlI l e).toNat
def Vg (l : List (List Int)) : Prop := l.length ≤ 10 ∧ ∀ e ∈ l, e.length = 2 ∧ 0 ≤ rd e 0 ∧ 0 ≤ rd e 1
theorem xor_rv : ∀ e, e < 20 → Go.bits .xor .i64 ((e : Nat) : Int) 1 = (rv e : Nat) := by decide
theorem Vg.row {l : List (List Int)} (h : Vg l) {e : Nat} (he : e < 2 * l.length) : (l.getD (e / 2) []).length = 2 ∧ 0 ≤ tlI l e := by
  have h2 : e / 2 < l.length := by omega
  have hm : l.getD (e / 2) [] ∈ l := by rw [List.getD_eq_getElem?_getD, List.getElem?_eq_getElem h2]; exact List.getElem_mem h2
  obtain ⟨a, b, c⟩ := h.2 _ hm
  refine ⟨a, ?_⟩
  unfold tlI
  rcases (show e % 2 = 0 ∨ e % 2 = 1 by omega) with h | h <;> rw [h]
  · exact b
  · exact c
theorem td2 (e : Nat) : Int.tdiv (e : Int) 2 = ((e / 2 : Nat) : Int) := by rw [Int.tdiv_eq_ediv_of_nonneg (by omega)]; omega
theorem tm2 (e : Nat) : Int.tmod (e : Int) 2 = ((e % 2 : Nat) : Int) := by rw [Int.tmod_eq_emod_of_nonneg (by omega)]; omega
theorem tl_rv (l : List (List Int)) (e : Nat) : tlI l (rv e) = rd (l.getD (e / 2) []) ((1 - e % 2 : Nat) : Int) := by
  unfold tlI rv
  rcases (show e % 2 = 0 ∨ e % 2 = 1 by omega) with h | h
  · rw [if_pos h, show (e + 1) / 2 = e / 2 by omega, show (e + 1) % 2 = 1 by omega, h]
  · rw [if_neg (by omega), show (e - 1) / 2 = e / 2 by omega, show (e - 1) % 2 = 0 by omega, h]
theorem spEnds {l : List (List Int)} (h : Vg l) (n : Int) {e : Nat} (he : e < 2 * l.length) : spec_l01Ends.f n l e = some (tlI l e, tlI l (rv e)) := by
  have hl := h.1
  have hr := (h.row he).1
  unfold spec_l01Ends.f
  rw [td2, tm2, w64 (x := ((e / 2 : Nat) : Int)) (by omega) (by omega), show rd_L1 l ((e / 2 : Nat) : Int) = l.getD (e / 2) [] by unfold rd_L1; rw [Int.toNat_natCast], hr, tl_rv]
  unfold tlI
  rw [if_pos (by omega), if_pos (by omega)]
  rcases (show e % 2 = 0 ∨ e % 2 = 1 by omega) with h | h <;> rw [h]
  · rfl
  · rfl
theorem imEnds {l : List (List Int)} (h : Vg l) (n : Int) {e : Nat} (he : e < 2 * l.length) : impl_Graph_ends.f n l e = some (tlI l e, tlI l (rv e)) := by
  have hl := h.1
  have hr := (h.row he).1
  unfold impl_Graph_ends.f
  rw [td2, tm2, w64 (x := ((e / 2 : Nat) : Int)) (by omega) (by omega), show rd_L1 l ((e / 2 : Nat) : Int) = l.getD (e / 2) [] by unfold rd_L1; rw [Int.toNat_natCast], hr, tl_rv]
  unfold tlI
  rw [w64 (x := 1 - ((e % 2 : Nat) : Int)) (by omega) (by omega), show 1 - ((e % 2 : Nat) : Int) = ((1 - e % 2 : Nat) : Int) by omega]
  rw [if_pos (by omega), if_pos (by omega), if_pos (by omega), if_pos (by omega), if_pos (by omega), if_pos (by omega)]
def Tm (l : List (List Int)) : Nat → Nat → Int := TB (tlN l) rv
theorem tm_at {l : List (List Int)} (h : Vg l) {e f : Nat} (he : e < 2 * l.length) (hf : f < 2 * l.length) : Tm l e f = if tlI l f = tlI l (rv e) ∧ f ≠ rv e then 1 else 0 := by
  have h1 := (h.row hf).2
  have h2 := (h.row ((rv_rev l.length).lt e he)).2
  unfold Tm TB bi tlN
  by_cases e1 : f = rv e
  · rw [if_pos e1, e1, if_pos rfl, if_neg fun h => h.2 rfl]; rfl
  · rw [if_neg e1]
    by_cases e2 : tlI l f = tlI l (rv e)
    · rw [if_pos (by rw [e2]), if_pos ⟨e2, e1⟩]; rfl
    · rw [if_neg (by omega), if_neg fun h => e2 h.1]; rfl
theorem rv_inj {e f : Nat} : ((f : Nat) : Int) = ((rv e : Nat) : Int) ↔ f = rv e := by omega
theorem spM_l1 {l : List (List Int)} (h : Vg l) (n : Int) (e : Nat) (he : e < 2 * l.length) (R : List (List Int)) (H : Ef (fun k => spec_l02Matrix.l0 k (lst (fun i => lst (Tm l i) (2 * l.length)) (e + 1)) ((2 * l.length : Nat) : Int) ((e + 1 : Nat) : Int) n l) R) :
    ∀ (d f : Nat), 2 * l.length - f = d → f ≤ 2 * l.length → Ef (fun k => spec_l02Matrix.l1 k (lst (fun i => lst (Tm l i) (2 * l.length)) e) ((2 * l.length : Nat) : Int) e (lst (fun j => if j < f then Tm l e j else 0) (2 * l.length)) (tlI l (rv e)) f n l) R
  | 0, f, hd, hf => by
    have hl := h.1
    obtain rfl : f = 2 * l.length := by omega
    refine Ef.step (fun k => by rw [spec_l02Matrix.l1]) (Ef.neg (by omega) (Ef.pos (by rw [lst_len]; omega) ?_))
    rw [w64 (x := (e : Int) + 1) (by omega) (by omega), show (e : Int) + 1 = ((e + 1 : Nat) : Int) by omega]
    rw [show lst (fun j => if j < 2 * l.length then Tm l e j else 0) (2 * l.length) = lst (Tm l e) (2 * l.length) from lst_congr fun j hj => if_pos hj]
    rw [lst_succ (fun i => lst (Tm l i) (2 * l.length)) e] at H
    exact H
  | d + 1, f, hd, hf => by
    have hl := h.1
    have hf2 : f < 2 * l.length := by omega
    have ih := spM_l1 h n e he R H d (f + 1) (by omega) (by omega)
    have hT := tm_at h he hf2
    have same : Tm l e f = 0 → lst (fun j => if j < f then Tm l e j else 0) (2 * l.length) = lst (fun j => if j < f + 1 then Tm l e j else 0) (2 * l.length) := fun h0 => lst_congr fun j _ => by
      by_cases e1 : j < f
      · rw [if_pos e1, if_pos (by omega)]
      · rw [if_neg e1]
        by_cases e2 : j = f
        · rw [if_pos (by omega), e2, h0]
        · rw [if_neg (by omega)]
    refine Ef.step (fun k => by rw [spec_l02Matrix.l1]) (Ef.pos (by omega) ?_)
    rw [spEnds h n hf2, xor_rv e (by omega), w64 (x := (f : Int) + 1) (by omega) (by omega), show (f : Int) + 1 = ((f + 1 : Nat) : Int) by omega]
    refine Ef.bind (Ef.ret _) ?_
    by_cases e1 : tlI l f = tlI l (rv e)
    · refine Ef.pos e1 ?_
      by_cases e2 : f = rv e
      · refine Ef.pos (rv_inj.mpr e2) ?_
        rw [if_neg fun h => h.2 e2] at hT
        rw [same hT]; exact ih
      · refine Ef.neg (fun h => e2 (rv_inj.mp h)) (Ef.pos (by omega) (Ef.pos (by rw [lst_len]; omega) ?_))
        rw [if_pos ⟨e1, e2⟩] at hT
        rw [Int.toNat_natCast, lst_set, show lst (fun j => if j = f then 1 else if j < f then Tm l e j else 0) (2 * l.length) = lst (fun j => if j < f + 1 then Tm l e j else 0) (2 * l.length) from lst_congr fun j _ => ?_]
        · exact ih
        · by_cases e3 : j = f
          · rw [if_pos e3, if_pos (by omega), e3, hT]
          · rw [if_neg e3]
            by_cases e4 : j < f
            · rw [if_pos e4, if_pos (by omega)]
            · rw [if_neg e4, if_neg (by omega)]
    · refine Ef.neg e1 ?_
      rw [if_neg fun h => e1 h.1] at hT
      rw [same hT]; exact ih
theorem spM_l0 {l : List (List Int)} (h : Vg l) (n : Int) : ∀ (d e : Nat), 2 * l.length - e = d → e ≤ 2 * l.length → Ef (fun k => spec_l02Matrix.l0 k (lst (fun i => lst (Tm l i) (2 * l.length)) e) ((2 * l.length : Nat) : Int) e n l) (mat (Tm l) (2 * l.length))
  | 0, e, hd, he => by
    obtain rfl : e = 2 * l.length := by omega
    exact Ef.step (fun k => by rw [spec_l02Matrix.l0]) (Ef.neg (by omega) (Ef.ret _))
  | d + 1, e, hd, he => by
    have hl := h.1
    refine Ef.step (fun k => by rw [spec_l02Matrix.l0]) (Ef.pos (by omega) (Ef.pos (by omega) (Ef.pos (by omega) ?_)))
    rw [spEnds h n (by omega), Int.toNat_natCast, lst_rep]
    refine Ef.bind (Ef.ret _) ?_
    exact spM_l1 h n e (by omega) _ (spM_l0 h n d (e + 1) (by omega) (by omega)) _ 0 rfl (Nat.zero_le _)
theorem spM_eq {l : List (List Int)} (h : Vg l) (n : Int) : Ef (fun k => spec_l02Matrix.f k n l) (mat (Tm l) (2 * l.length)) := by
  have hl := h.1
  unfold spec_l02Matrix.f
  rw [w64 (x := 2 * (l.length : Int)) (by omega) (by omega), show 2 * (l.length : Int) = ((2 * l.length : Nat) : Int) by omega]
  exact spM_l0 h n _ 0 rfl (Nat.zero_le _)
def im (l : List (List Int)) (e f : Nat) : Nat → Nat → Int := fun p q => if p < e ∨ p = e ∧ q < f then Tm l p q else 0
theorem imM_l1 {l : List (List Int)} (h : Vg l) (n : Int) (e : Nat) (he : e < 2 * l.length) (R : List (List Int)) (H : Ef (fun k => impl_Graph_edgeMatrix.l0 k (mat (im l (e + 1) 0) (2 * l.length)) ((2 * l.length : Nat) : Int) ((e + 1 : Nat) : Int) n l) R) :
    ∀ (d f : Nat), 2 * l.length - f = d → f ≤ 2 * l.length → Ef (fun k => impl_Graph_edgeMatrix.l1 k (mat (im l e f) (2 * l.length)) e (tlI l (rv e)) ((2 * l.length : Nat) : Int) e ((2 * l.length : Nat) : Int) f n l) R
  | 0, f, hd, hf => by
    have hl := h.1
    obtain rfl : f = 2 * l.length := by omega
    refine Ef.step (fun k => by rw [impl_Graph_edgeMatrix.l1]) (Ef.neg (by omega) ?_)
    rw [w64 (x := (e : Int) + 1) (by omega) (by omega), show (e : Int) + 1 = ((e + 1 : Nat) : Int) by omega]
    rw [show mat (im l e (2 * l.length)) (2 * l.length) = mat (im l (e + 1) 0) (2 * l.length) from mat_congr fun p q hp hq => ?_]
    · exact H
    · unfold im
      by_cases e1 : p < e ∨ p = e ∧ q < 2 * l.length
      · rw [if_pos e1, if_pos (by omega)]
      · rw [if_neg e1, if_neg (by omega)]
  | d + 1, f, hd, hf => by
    have hl := h.1
    have hf2 : f < 2 * l.length := by omega
    have ih := imM_l1 h n e he R H d (f + 1) (by omega) (by omega)
    have hT := tm_at h he hf2
    have same : Tm l e f = 0 → mat (im l e f) (2 * l.length) = mat (im l e (f + 1)) (2 * l.length) := fun h0 => mat_congr fun p q _ _ => by
      unfold im
      by_cases e1 : p < e ∨ p = e ∧ q < f
      · rw [if_pos e1, if_pos (by omega)]
      · rw [if_neg e1]
        by_cases e2 : p = e ∧ q = f
        · rw [if_pos (by omega), e2.1, e2.2, h0]
        · rw [if_neg (by omega)]
    refine Ef.step (fun k => by rw [impl_Graph_edgeMatrix.l1]) (Ef.pos (by omega) ?_)
    rw [imEnds h n hf2, xor_rv e (by omega), w64 (x := (f : Int) + 1) (by omega) (by omega), show (f : Int) + 1 = ((f + 1 : Nat) : Int) by omega]
    refine Ef.bind (Ef.ret _) ?_
    by_cases e1 : tlI l f = tlI l (rv e)
    · refine Ef.pos e1 ?_
      by_cases e2 : f = rv e
      · refine Ef.pos (rv_inj.mpr e2) ?_
        rw [if_neg fun h => h.2 e2] at hT
        rw [same hT]; exact ih
      · refine Ef.neg (fun h => e2 (rv_inj.mp h)) (Ef.pos (by omega) (Ef.pos (by rw [lst_len]; omega) (Ef.pos (by omega) ?_)))
        rw [rd_mat _ he]
        refine Ef.pos (by rw [lst_len]; omega) ?_
        rw [if_pos ⟨e1, e2⟩] at hT
        rw [Int.toNat_natCast, Int.toNat_natCast, mat_set _ _ _ he, show mat (fun p q => if p = e ∧ q = f then 1 else im l e f p q) (2 * l.length) = mat (im l e (f + 1)) (2 * l.length) from mat_congr fun p q _ _ => ?_]
        · exact ih
        · unfold im
          by_cases e3 : p = e ∧ q = f
          · rw [if_pos e3, if_pos (by omega), e3.1, e3.2, hT]
          · rw [if_neg e3]
            by_cases e4 : p < e ∨ p = e ∧ q < f
            · rw [if_pos e4, if_pos (by omega)]
            · rw [if_neg e4, if_neg (by omega)]
    · refine Ef.neg e1 ?_
      rw [if_neg fun h => e1 h.1] at hT
      rw [same hT]; exact ih
theorem imM_l0 {l : List (List Int)} (h : Vg l) (n : Int) : ∀ (d e : Nat), 2 * l.length - e = d → e ≤ 2 * l.length → Ef (fun k => impl_Graph_edgeMatrix.l0 k (mat (im l e 0) (2 * l.length)) ((2 * l.length : Nat) : Int) e n l) (mat (Tm l) (2 * l.length))
  | 0, e, hd, he => by
    obtain rfl : e = 2 * l.length := by omega
    refine Ef.step (fun k => by rw [impl_Graph_edgeMatrix.l0]) (Ef.neg (by omega) ?_)
    rw [show mat (im l (2 * l.length) 0) (2 * l.length) = mat (Tm l) (2 * l.length) from mat_congr fun p q hp _ => if_pos (.inl hp)]
    exact Ef.ret _
  | d + 1, e, hd, he => by
    have hl := h.1
    refine Ef.step (fun k => by rw [impl_Graph_edgeMatrix.l0]) (Ef.pos (by omega) ?_)
    rw [imEnds h n (by omega)]
    unfold impl_Graph_size.f
    refine Ef.bind (Ef.ret _) ?_
    refine Ef.bind (Ef.ret _) ?_
    rw [w64 (x := 2 * (l.length : Int)) (by omega) (by omega), show 2 * (l.length : Int) = ((2 * l.length : Nat) : Int) by omega]
    exact imM_l1 h n e (by omega) _ (imM_l0 h n d (e + 1) (by omega) (by omega)) _ 0 rfl (Nat.zero_le _)
theorem imM_eq {l : List (List Int)} (h : Vg l) (n : Int) : Ef (fun k => impl_Graph_edgeMatrix.f k n l) (mat (Tm l) (2 * l.length)) := by
  have hl := h.1
  unfold impl_Graph_edgeMatrix.f impl_Graph_size.f
  refine Ef.bind (Ef.ret _) ?_
  rw [w64 (x := 2 * (l.length : Int)) (by omega) (by omega), show 2 * (l.length : Int) = ((2 * l.length : Nat) : Int) by omega]
  refine Ef.bind (sq_eq _ (by omega)) ?_
  refine Ef.bind (Ef.ret _) ?_
  rw [w64 (x := 2 * (l.length : Int)) (by omega) (by omega), show 2 * (l.length : Int) = ((2 * l.length : Nat) : Int) by omega]
  have := imM_l0 h n _ 0 rfl (Nat.zero_le _)
  rw [show mat (im l 0 0) (2 * l.length) = mat (fun _ _ => 0) (2 * l.length) from mat_congr fun p q _ _ => if_neg (by omega)] at this
  exact this
-- the reciprocals
def Rc (l : List (List Int)) : PS Int := dp (2 * l.length) (Tm l)
def rc (l : List (List Int)) : List Int := trim (lst (dc (2 * l.length) (Tm l)) (2 * l.length + 1))
theorem rc_rep (l : List (List Int)) : Rep (Rc l) (rc l) := rep_lst (dc (2 * l.length) (Tm l)) _ fun k hk => dc_deg _ _ _ (by omega)
theorem rc_nrm {l : List (List Int)} (h : Vg l) (Nn : Nat) : nrm Nn (Rc l) ≤ 95367431640625 := by
  have hl := h.1
  refine Nat.le_trans (base_nrm Nn (2 * l.length) (tlN l) rv (rv_rev _) (by omega)) ?_
  exact Nat.le_trans (Nat.pow_le_pow_right (by decide) (show 2 * l.length ≤ 20 by omega)) (by decide)
theorem rc_abs {l : List (List Int)} (h : Vg l) (k : Nat) : (dc (2 * l.length) (Tm l) k).natAbs ≤ 1000000000000000 := by
  have := Nat.le_trans (abs_le_nrm (k + 1) (Rc l) k (Nat.lt_succ_self k)) (rc_nrm h (k + 1))
  exact Nat.le_trans this (by decide)
theorem spR_eq {l : List (List Int)} (h : Vg l) (n : Int) : Ef (fun k => spec_l02Reciprocal.f k n l) (rc l) := by
  have hl := h.1
  unfold spec_l02Reciprocal.f
  refine Ef.bind (spM_eq h n) ?_
  refine Ef.bind (spDet (Tm l) _ (by omega) (fun i j => ?_) (rc_abs h)) (Ef.ret _)
  refine wr_id ?_
  unfold Tm TB bi
  split <;> split <;> decide
theorem imR_eq {l : List (List Int)} (h : Vg l) (n : Int) : Ef (fun k => impl_Graph_reciprocal.f k n l) (rc l) := by
  have hl := h.1
  unfold impl_Graph_reciprocal.f
  refine Ef.bind (imM_eq h n) ?_
  exact Ef.bind (imDet (Tm l) _ (by omega) (rc_abs h)) (Ef.ret _)
end Go.Proofs.Ytjmglannhkfbmaa.PQuot
namespace Go.Proofs.Ytjmglannhkfbmaa.PQuot
open Go.RowKit Go.Proofs.YtjmglannhkfbmaaW.PrintWords
open Go.Proofs.YtjmglannhkfbmaaLA
set_option linter.unusedVariables false
-- the answers of both sides agree
theorem flat_get {α : Type} (f : Nat → List α) (s : Nat) (d : α) (hf : ∀ k, (f k).length = s) : ∀ (m : Nat), ((List.range m).flatMap f).length = m * s ∧ ∀ k i, k < m → i < s → ((List.range m).flatMap f).getD (k * s + i) d = (f k).getD i d := by
  intro m
  induction m with
  | zero => exact ⟨by simp, fun k i hk => by omega⟩
  | succ m ih =>
    have e : (List.range (m + 1)).flatMap f = (List.range m).flatMap f ++ f m := by rw [List.range_succ, List.flatMap_append]; simp
    refine ⟨by rw [e, List.length_append, ih.1, hf, Nat.succ_mul], fun k i hk hi => ?_⟩
    rw [e, List.getD_eq_getElem?_getD]
    by_cases h : k < m
    · have : k * s + i < m * s := by
        have := Nat.mul_le_mul_right s (show k + 1 ≤ m by omega)
        rw [Nat.succ_mul] at this
        omega
      rw [List.getElem?_append_left (by rw [ih.1]; exact this), ← List.getD_eq_getElem?_getD]
      exact ih.2 k i h hi
    · obtain rfl : k = m := by omega
      rw [List.getElem?_append_right (by rw [ih.1]; omega), ih.1, Nat.add_sub_cancel_left, ← List.getD_eq_getElem?_getD]
theorem dE_at (s : Nat) (l t : List (List Int)) : (dE s l t).length = l.length * s ∧ ∀ k i, k < l.length → i < s → (dE s l t).getD (k * s + i) [] = dRow s (l.getD k []) (t.getD k []) i := by
  have h := flat_get (dRows s l t) s [] (fun k => by unfold dRows; rw [List.length_map, List.length_range]) l.length
  refine ⟨h.1, fun k i hk hi => ?_⟩
  have := h.2 k i hk hi
  rw [show (dE s l t).getD (k * s + i) [] = (dRows s l t k).getD i [] from this]
  exact lst_get (dRow s (l.getD k []) (t.getD k [])) [] hi
def ti (t : List (List Int)) (k i : Nat) : Nat := (rd (t.getD k []) i).toNat
def ni (t : List (List Int)) (k i : Nat) : Nat := (t.getD k []).idxOf (i : Int)
theorem turns_ok {n : Int} {s : Nat} {l t : List (List Int)} (h : okC n l s t = true) : ∀ k i, k < l.length → i < s → (ti t k i < s ∧ ni t k i < s) ∧ ni t k (ti t k i) = i ∧ ti t k (ni t k i) = i := by
  obtain ⟨-, ⟨h5, h6⟩, h7, h8⟩ := okC_parts h
  intro k i hk hi
  have ht := h8 _ (getD_mem (h7 ▸ hk : k < t.length))
  unfold ti ni
  generalize t.getD k [] = x at *
  obtain ⟨hx, hp⟩ := ht
  have hin := okPerm_in hp
  have hnd : x.Nodup := by unfold okPerm at hp; simp only [Bool.and_eq_true, decide_eq_true_eq] at hp; exact hp.2
  have hall := (perm_iff x s (by omega)).mp hp
  have hmi : rd x i ∈ x := rd_mem (by omega)
  have b1 := hin _ hmi
  have hii := hall i hi
  have hlt := List.idxOf_lt_length_of_mem hii
  have hre : rd x i = x[i]'(by omega) := by unfold rd; rw [Int.toNat_natCast, List.getD_eq_getElem?_getD, List.getElem?_eq_getElem (by omega)]; rfl
  refine ⟨⟨by omega, by omega⟩, ?_, ?_⟩
  · rw [show (((rd x i).toNat : Nat) : Int) = rd x i by omega, hre]
    exact hnd.idxOf_getElem i (by omega)
  · have hre2 : rd x ((x.idxOf (i : Int) : Nat) : Int) = x[x.idxOf (i : Int)] := by unfold rd; rw [Int.toNat_natCast, List.getD_eq_getElem?_getD, List.getElem?_eq_getElem hlt]; rfl
    rw [hre2, List.getElem_idxOf hlt]; omega
theorem base_vg {n : Int} {s : Int} {l t : List (List Int)} (h : okC n l s t = true) : Vg l := by
  obtain ⟨⟨h1, h2, h3, h4⟩, -⟩ := okC_parts h
  exact ⟨h3, fun e he => ⟨(h4 e he).1, (h4 e he).2.1.1, (h4 e he).2.2.1⟩⟩
theorem cover_vg {n : Int} {s : Nat} {l t : List (List Int)} (h : okC n l s t = true) (hd : (dE s l t).length ≤ 10) : Vg (dE s l t) := by
  obtain ⟨⟨h1, h2, h3, h4⟩, ⟨h5, h6⟩, h7, h8⟩ := okC_parts h
  refine ⟨hd, fun e he => ?_⟩
  unfold dE at he
  obtain ⟨k, hk, he⟩ := List.mem_flatMap.mp he
  have hk := List.mem_range.mp hk
  unfold dRows at he
  obtain ⟨i, hi, rfl⟩ := List.mem_map.mp he
  have hi := List.mem_range.mp hi
  have hl := h4 _ (getD_mem hk)
  have ht := h8 _ (getD_mem (h7 ▸ hk : k < t.length))
  have hin := okPerm_in ht.2 _ (rd_mem (show i < (t.getD k []).length by omega))
  refine ⟨rfl, ?_, ?_⟩
  · show 0 ≤ rd (l.getD k []) 0 * (s : Int) + i
    have := Int.mul_nonneg hl.2.1.1 (Int.natCast_nonneg s)
    omega
  · show 0 ≤ rd (l.getD k []) 1 * (s : Int) + rd (t.getD k []) i
    have := Int.mul_nonneg hl.2.2.1 (Int.natCast_nonneg s)
    omega
theorem cover_tl {n : Int} {s : Nat} {l t : List (List Int)} (h : okC n l s t = true) : ∀ k i, k < l.length → i < s → tlN (dE s l t) (2 * (k * s + i)) = tlN l (2 * k) * s + i ∧ tlN (dE s l t) (2 * (k * s + i) + 1) = tlN l (2 * k + 1) * s + ti t k i := by
  obtain ⟨⟨h1, h2, h3, h4⟩, ⟨h5, h6⟩, h7, h8⟩ := okC_parts h
  intro k i hk hi
  have hl := h4 _ (getD_mem hk)
  have ht := h8 _ (getD_mem (h7 ▸ hk : k < t.length))
  have hin := okPerm_in ht.2 _ (rd_mem (show i < (t.getD k []).length by omega))
  have hat := (dE_at s l t).2 k i hk hi
  unfold tlN tlI ti
  rw [show 2 * (k * s + i) / 2 = k * s + i by omega, show 2 * (k * s + i) % 2 = 0 by omega, show (2 * (k * s + i) + 1) / 2 = k * s + i by omega, show (2 * (k * s + i) + 1) % 2 = 1 by omega, show 2 * k / 2 = k by omega, show 2 * k % 2 = 0 by omega, show (2 * k + 1) / 2 = k by omega, show (2 * k + 1) % 2 = 1 by omega, hat]
  have key : ∀ (x : Int) (y : Int) (hx : 0 ≤ x) (hy : 0 ≤ y), (x * (s : Int) + y).toNat = x.toNat * s + y.toNat := fun x y hx hy => by
    obtain ⟨a, rfl⟩ := Int.eq_ofNat_of_zero_le hx
    obtain ⟨b, rfl⟩ := Int.eq_ofNat_of_zero_le hy
    rw [Int.toNat_natCast, Int.toNat_natCast, ← Int.natCast_mul, ← Int.natCast_add, Int.toNat_natCast]
  exact ⟨key (rd (l.getD k []) 0) (i : Int) hl.2.1.1 (by omega), key (rd (l.getD k []) 1) (rd (t.getD k []) i) hl.2.2.1 hin.1⟩
theorem quot_ok {n : Int} {s : Nat} {l t : List (List Int)} (h : okC n l s t = true) (hd : (dE s l t).length ≤ 10) : ∃ q, q.length ≤ 40 ∧ ∃ a b c : Nat → Int, Dv a b c (rc (dE s l t)) (rc l) q := by
  obtain ⟨⟨h1, h2, h3, h4⟩, ⟨h5, h6⟩, h7, h8⟩ := okC_parts h
  have hm := (dE_at s l t).1
  have tok := turns_ok h
  have ctl := cover_tl h
  have hdp := cover_dp l.length s (by omega) (tlN l) (tlN (dE s l t)) (ti t) (ni t) (fun k i hk hi => (ctl k i hk hi).1) (fun k i hk hi => (ctl k i hk hi).2) tok
  have hnr := cover_nrm l.length s (by omega) (by omega) (by omega) (tlN l) (ti t) (ni t) tok
  have hQd : ∀ k, 2 * l.length * (s - 1) + 1 ≤ k → dc (2 * l.length * (s - 1)) (TQ (2 * l.length) (tlN l) rv (fun e i => if e % 2 = 0 then i else ti t (e / 2) i)) k = 0 := fun k hk => dc_deg _ _ _ (by omega)
  have hF : Rc (dE s l t) = Rc l * dp (2 * l.length * (s - 1)) (TQ (2 * l.length) (tlN l) rv (fun e i => if e % 2 = 0 then i else ti t (e / 2) i)) := by
    unfold Rc Tm
    rw [hm]; exact hdp
  have hq := rep_lst (dc (2 * l.length * (s - 1)) (TQ (2 * l.length) (tlN l) rv (fun e i => if e % 2 = 0 then i else ti t (e / 2) i))) _ hQd
  have hf := rc_rep (dE s l t)
  have hlen : (rc (dE s l t)).length ≤ 40 := Nat.le_trans (hf.len_le fun k (hk : 2 * (dE s l t).length + 1 ≤ k) => dc_deg _ _ _ (by omega)) (by omega)
  have dv := dv_mk hF hf (rc_rep l) hq (dc_zero _ _) (dc_zero _ _) hlen (fun N => hnr N)
  exact ⟨_, by have := dv.len; have := dv.pg; omega, _, _, _, dv⟩
theorem told_eq (n s : Int) (l t : List (List Int)) (hl : Sz 1048576 l) (ht : Sz 1048576 t) :
    (∃ c : Int, c ≠ 0 ∧ Ef (fun k => spec_l04Told.f k n l s t) (0, [], c) ∧ Ef (fun k => impl_derivedCode.f k n l s t) (0, [], c)) ∨
    (∃ s' : Nat, s = (s' : Int) ∧ okC n l s t = true ∧ (dE s' l t).length ≤ 10 ∧ Ef (fun k => spec_l04Told.f k n l s t) (n * s, dE s' l t, 0) ∧ Ef (fun k => impl_derivedCode.f k n l s t) (n * s, dE s' l t, 0)) := by
  have sp := Ef.le 1048578 (fun k hk => spIs_eq n s l t ht.1 k hk)
  have im := Ef.le 1048590 (fun k hk => imCover_eq n s l t hl.1 ht k hk)
  unfold spec_l04Told.f impl_derivedCode.f
  cases hc : okC n l s t with
  | false =>
    rw [hc] at sp im
    refine .inl ⟨1, by decide, ?_, ?_⟩
    · exact Ef.bind sp (Ef.neg (by decide) (Ef.ret _))
    · exact Ef.bind im (Ef.neg (by decide) (Ef.ret _))
  | true =>
    rw [hc] at sp im
    obtain ⟨s, rfl⟩ := Int.eq_ofNat_of_zero_le (show 0 ≤ s by have := (okC_parts hc).2.1.1; omega)
    have sd := Ef.le 200 (fun k hk => spD_eq hc k hk)
    have id := Ef.le 200 (fun k hk => imD_eq hc k hk)
    by_cases h8 : n * (s : Int) > 8
    · refine .inl ⟨3, by decide, ?_, ?_⟩
      · refine Ef.bind sp (Ef.pos rfl ?_)
        exact Ef.bind sd (Ef.pos h8 (Ef.ret _))
      · refine Ef.bind im (Ef.pos rfl ?_)
        exact Ef.bind id (Ef.pos h8 (Ef.ret _))
    · by_cases h10 : ((dE s l t).length : Int) > 10
      · refine .inl ⟨3, by decide, ?_, ?_⟩
        · refine Ef.bind sp (Ef.pos rfl ?_)
          exact Ef.bind sd (Ef.neg h8 (Ef.pos h10 (Ef.ret _)))
        · refine Ef.bind im (Ef.pos rfl ?_)
          refine Ef.bind id (Ef.neg h8 ?_)
          unfold impl_Graph_size.f
          exact Ef.bind (Ef.ret _) (Ef.pos h10 (Ef.ret _))
      · refine .inr ⟨s, rfl, rfl, by omega, ?_, ?_⟩
        · refine Ef.bind sp (Ef.pos rfl ?_)
          exact Ef.bind sd (Ef.neg h8 (Ef.neg h10 (Ef.ret _)))
        · refine Ef.bind im (Ef.pos rfl ?_)
          refine Ef.bind id (Ef.neg h8 ?_)
          unfold impl_Graph_size.f
          exact Ef.bind (Ef.ret _) (Ef.neg h10 (Ef.ret _))
theorem quot_answers (n s : Int) (l t : List (List Int)) (hl : Sz 1048576 l) (ht : Sz 1048576 t) : ∃ r1 r2, r1.length ≤ 40 ∧ Ef (fun k => spec_QuotientOfCover.f k n l s t) (r1, r2) ∧ Ef (fun k => impl_QuotientOfCover.f k n l s t) (r1, r2) := by
  unfold spec_QuotientOfCover.f impl_QuotientOfCover.f
  rcases told_eq n s l t hl ht with ⟨c, hc, h1, h2⟩ | ⟨s', rfl, hc, h10, h1, h2⟩
  · exact ⟨[], c, by simp, Ef.bind h1 (Ef.neg hc (Ef.ret _)), Ef.bind h2 (Ef.neg hc (Ef.ret _))⟩
  · obtain ⟨q, hq, a, b, c, dv⟩ := quot_ok hc h10
    obtain ⟨b1, sd⟩ := sd_eq dv
    have vb := base_vg hc
    have vc := cover_vg hc h10
    refine ⟨q, 0, hq, ?_, ?_⟩
    · refine Ef.bind h1 (Ef.pos rfl ?_)
      refine Ef.bind (spR_eq vc _) ?_
      refine Ef.bind (spR_eq vb _) ?_
      exact Ef.bind sd (Ef.ret _)
    · refine Ef.bind h2 (Ef.pos rfl ?_)
      refine Ef.bind (imR_eq vc _) ?_
      refine Ef.bind (imR_eq vb _) ?_
      exact Ef.bind (dw_eq dv) (Ef.ret _)
end Go.Proofs.Ytjmglannhkfbmaa.PQuot
namespace Go.Proofs.Ytjmglannhkfbmaa.PQuot
open Go.RowKit Go.Proofs.YtjmglannhkfbmaaW.PrintWords
open Go.Proofs.YtjmglannhkfbmaaLA
set_option linter.unusedVariables false
-- the law: what its walk asks for
theorem quot_law (a0 a2 : Int) (l1 l3 : List (List Int)) (hl : l1.length ≤ 9223372036854775807) (hx : ∀ x ∈ l1, x.length ≤ 9223372036854775807) (ht : l3.length ≤ 9223372036854775807) (hy : ∀ x ∈ l3, x.length ≤ 9223372036854775807) :
    ∃ k s, laws_szCover.f k a0 l1 a2 l3 1048576 = some s ∧ (s < 0 ∨ ¬ s < 0 ∧ ∃ (r1 : List Int) (r2 j0 j1 : Int) (d1 d3 : List (List Int)) (m : Int) (g' : List Int),
      laws_toCover.f k a0 l1 a2 l3 = some (a0, l1, a2, l3) ∧ spec_QuotientOfCover.f k a0 l1 a2 l3 = some (r1, r2) ∧ impl_QuotientOfCover.f k a0 l1 a2 l3 = some (r1, r2) ∧ laws_eqInt64S.f k r1 r1 = some true ∧ laws_eqCover.f k a0 l1 a2 l3 a0 l1 a2 l3 = some true ∧
      markSS k l1 1 = some (j0, d1) ∧ markSS k l3 j0 = some (j1, d3) ∧ ¬ j1 < 0 ∧ laws_markInt64S.f k r1 1 = some (m, g') ∧ laws_heldInt64S.f k g' 1 = some m ∧ ¬ m < 0) := by
  by_cases hS : Sz 1048576 l1 ∧ Sz 1048576 l3
  · obtain ⟨h1, h3⟩ := hS
    obtain ⟨r1, r2, hr, ⟨k0, sp⟩, k1, im⟩ := quot_answers a0 a2 l1 l3 h1 h3
    obtain ⟨k, hk0, hk1, hk⟩ : ∃ k, k0 ≤ k ∧ k1 ≤ k ∧ 10000000 < k := ⟨max (max k0 k1) 10000001, by omega, by omega, by omega⟩
    obtain ⟨s, hs, h⟩ := szC_eq a0 a2 l1 l3 hl hx ht hy k (by omega)
    refine ⟨k, s, hs, ?_⟩
    rcases h with h | ⟨h, -, -⟩
    · exact .inl h
    · have p1 : (l1.length : Int) * (1048576 : Nat) ≤ 1048576 * 1048576 := Int.mul_le_mul (by have := h1.1; omega) (Int.le_refl _) (by decide) (by decide)
      have p3 : (l3.length : Int) * (1048576 : Nat) ≤ 1048576 * 1048576 := Int.mul_le_mul (by have := h3.1; omega) (Int.le_refl _) (by decide) (by decide)
      obtain ⟨j0, d1, m1, b1, b2⟩ := markR_eq l1 1048576 (by omega) h1.2 k (by omega) 1 (by omega) (by omega)
      obtain ⟨j1, d3, m3, b3, b4⟩ := markR_eq l3 1048576 (by omega) h3.2 k (by omega) j0 b1 (by omega)
      refine .inr ⟨h, r1, r2, j0, j1, d1, d3, 1 + r1.length, ramp 1 r1.length, toC_eq a0 a2 l1 l3 1048576 (by omega) h1 h3 k (by omega), sp k hk0, im k hk1, eqI_refl r1 (by omega) k (by omega), eqC_refl a0 a2 l1 l3 1048576 (by omega) h1 h3 k (by omega), m1, m3, by omega, mark_eq r1 1 (by omega) (by omega) (by omega) k (by omega), held_eq r1.length 1 (by omega) (by omega) (by omega) k (by omega), by omega⟩
  · obtain ⟨s, hs, h⟩ := szC_eq a0 a2 l1 l3 hl hx ht hy 1048577 (by omega)
    refine ⟨1048577, s, hs, ?_⟩
    rcases h with h | ⟨-, h1, h3⟩
    · exact .inl h
    · exact absurd ⟨h1, h3⟩ hS
end Go.Proofs.Ytjmglannhkfbmaa.PQuot
