/- The plain law: the program's steps are the document's. -/
import Derived.Test.YtbncidjnjkhpfaaSl
namespace Go.Proofs.Ytbncidjnjkhpfaa
open Go.Sx
set_option maxRecDepth 100000
set_option linter.unusedSimpArgs false

theorem numR0 (l : List UInt8) (bad : Bool) : numR l bad 0 = (0, l, bad) := by simp [numR, big]
theorem numR1_nil (bad : Bool) : numR [] bad 1 = (0, [], true) := by simp [numR]
theorem numR1_cons (c : UInt8) (r : List UInt8) (bad : Bool) : numR (c :: r) bad 1 = ((c.toNat : Int), r, bad) := by simp [numR, big]
theorem numR2_nil (bad : Bool) : numR [] bad 2 = (0, [], true) := by simp [numR]
theorem numR2_one (c : UInt8) (bad : Bool) : numR [c] bad 2 = (0, [c], true) := by simp [numR]
theorem numR2_cons (c d : UInt8) (r : List UInt8) (bad : Bool) : numR (c :: d :: r) bad 2 = ((c.toNat : Int) * 256 + (d.toNat : Int), r, bad) := by
  unfold numR; rw [if_neg (by simp)]; simp [big]

theorem gd_nil (k : Nat) : gd [] k = 0 := by simp [gd]
theorem gd_zero (c : UInt8) (r : List UInt8) : gd (c :: r) 0 = c.toNat := rfl
theorem gd_succ (c : UInt8) (r : List UInt8) (k : Nat) : gd (c :: r) (k + 1) = gd r k := by simp [gd]

theorem one_same (c : UInt8) (r : List UInt8) (h : c.toNat % 9 ≠ 0) : oneP (c :: r) = oneRo (c :: r) := by
  have h9 : c.toNat % 9 < 9 := Nat.mod_lt _ (by decide)
  unfold oneP oneRo
  have e0 : gd (c :: r) 0 = c.toNat := rfl
  generalize hk : c.toNat % 9 = k at h h9 ⊢
  by_cases h1 : k = 1
  · subst h1
    match r with
    | [] => simp [stepR, num4, num3, num2, num1, shp, numR0, numR1_nil, numR1_cons, oneN, e0, hk, szr]
    | [x] => simp [stepR, num4, num3, num2, num1, shp, numR0, numR1_nil, numR1_cons, oneN, e0, hk, szr]
    | [x, y] => simp [stepR, num4, num3, num2, num1, shp, numR0, numR1_nil, numR1_cons, oneN, e0, hk, szr]
    | x :: y :: z :: t =>
      simp [stepR, num4, num3, num2, num1, shp, numR0, numR1_nil, numR1_cons, oneN, gd_zero, gd_succ, hk, szr]
      have n4 : ¬ (t.length + 1 + 1 + 1 + 1 < 4) := by omega
      by_cases hz : t.length < z.toNat
      · have n5 : t.length + 1 + 1 + 1 + 1 < 4 + z.toNat := by omega
        simp [hz, n4, n5]
      · have n5 : ¬ (t.length + 1 + 1 + 1 + 1 < 4 + z.toNat) := by omega
        simp [hz, n4, n5, show 4 + z.toNat = z.toNat + 1 + 1 + 1 + 1 by omega]
  by_cases h5 : k = 5
  · subst h5
    match r with
    | [] => simp [stepR, num4, num3, num2, num1, shp, numR0, numR1_nil, numR1_cons, numR2_nil, numR2_one, numR2_cons, oneN, gd_zero, gd_succ, hk, szr]
    | [x] => simp [stepR, num4, num3, num2, num1, shp, numR0, numR1_nil, numR1_cons, numR2_nil, numR2_one, numR2_cons, oneN, gd_zero, gd_succ, hk, szr]
    | [x, y] => simp [stepR, num4, num3, num2, num1, shp, numR0, numR1_nil, numR1_cons, numR2_nil, numR2_one, numR2_cons, oneN, gd_zero, gd_succ, hk, szr]
    | [x, y, z] => simp [stepR, num4, num3, num2, num1, shp, numR0, numR1_nil, numR1_cons, numR2_nil, numR2_one, numR2_cons, oneN, gd_zero, gd_succ, hk, szr]
    | x :: y :: z :: u :: t =>
      simp [stepR, num4, num3, num2, num1, shp, numR0, numR1_nil, numR1_cons, numR2_nil, numR2_one, numR2_cons, oneN, gd_zero, gd_succ, hk, szr]
      have n5 : ¬ (t.length + 1 + 1 + 1 + 1 + 1 < 5) := by omega
      have n0 : ¬ ((t.length : Int) < 0) := by omega
      simp [n5, n0, Int.mul_comm]
  by_cases h6 : k = 6
  · subst h6
    simp [stepR, num4, num3, num2, num1, shp, numR0, oneN, gd_zero, gd_succ, hk, szr]
    have n0 : ¬ ((r.length : Int) < 0) := by omega
    simp [n0]
  · have s1 : szr (k : Int) = 1 := by unfold szr; rw [if_neg (by omega), if_neg (by omega), if_neg (by omega)]
    have s2 : shp (k : Int) = (1, 0, 0, 0) := by unfold shp; rw [if_neg (by omega), if_neg (by omega), if_neg (by omega)]
    match r with
    | [] => simp [stepR, num4, num3, num2, num1, s1, s2, numR0, numR1_nil, numR1_cons, oneN, gd_zero, gd_succ, hk, h1, h5, h6]
    | x :: t =>
      simp [stepR, num4, num3, num2, num1, s1, s2, numR0, numR1_nil, numR1_cons, oneN, gd_zero, gd_succ, hk, h1, h5, h6]
      have n0 : ¬ ((t.length : Int) < 0) := by omega
      have n2 : ¬ (t.length + 1 + 1 < 2) := by omega
      simp [n0, n2]

theorem dec_same : ∀ (n : Nat) (l : List UInt8) (k : Nat), dec oneP n l k = dec oneRo n l k
  | 0, _, _ => rfl
  | _ + 1, [], _ => rfl
  | n + 1, c :: r, k => by
    simp only [dec]
    by_cases h : c.toNat % 9 = 0
    · simp only [h, if_true, dec_same n]
    · simp only [h, if_false, one_same c r h, dec_same n]
theorem decP_R (l : List UInt8) : decP l = decR l := dec_same _ _ _

/-- Steps that may be, and the bytes behind their kind. -/
def pay (s : Stp) : List UInt8 := beb s.a (shp s.k).1 ++ beb s.b (shp s.k).2.1 ++ beb s.c (shp s.k).2.2.1 ++ beb s.t.length (shp s.k).2.2.2 ++ s.t
inductive Form : Stp → List UInt8 → Prop
  | f1 (x y : UInt8) (t : List UInt8) (h : t.length ≤ 255) : Form ⟨1, x.toNat, y.toNat, 0, t⟩ (x :: y :: UInt8.ofNat t.length :: t)
  | f5 (x y z u : UInt8) : Form ⟨5, x.toNat, (256 * y.toNat + z.toNat : Nat), u.toNat, []⟩ [x, y, z, u]
  | f6 : Form ⟨6, 0, 0, 0, []⟩ []
  | fo (k : Nat) (hk : k = 2 ∨ k = 3 ∨ k = 4 ∨ k = 7 ∨ k = 8) (x : UInt8) : Form ⟨k, x.toNat, 0, 0, []⟩ [x]

theorem by8_self (x : UInt8) : by8 (x.toNat : Int) = x := by
  have := x.toNat_lt
  unfold by8
  have e : (((x.toNat : Int) % 256).toNat) = x.toNat := by omega
  rw [e]; simp
theorem fdiv1 (n : Int) : n.fdiv 1 = n := by simp
theorem by8_nat (n : Nat) (h : n ≤ 255) : by8 (n : Int) = UInt8.ofNat n := by
  unfold by8
  rw [show (((n : Int) % 256).toNat) = n by omega]
theorem rm0 {n : Int} (h : rm n 0 = true) : n = 0 := by simpa [rm] using h
theorem rm1 {n : Int} (h : rm n 1 = true) : ∃ x : UInt8, n = (x.toNat : Int) := by
  have h : 0 ≤ n ∧ n ≤ 255 := by simpa [rm] using h
  exact ⟨by8 n, (by8_toNat n h).symm⟩
theorem rm2 {n : Int} (h : rm n 2 = true) : ∃ x y : UInt8, n = ((256 * x.toNat + y.toNat : Nat) : Int) := by
  have h : 0 ≤ n ∧ n ≤ 65535 := by simpa [rm] using h
  refine ⟨by8 (n / 256), by8 (n % 256), ?_⟩
  have h1 := by8_toNat (n / 256) (by omega)
  have h2 := by8_toNat (n % 256) (by omega)
  omega
theorem enc1_pay (s : Stp) : enc1 s = by8 s.k :: pay s := by simp [enc1, pay, beb]

theorem form_may {s : Stp} {p : List UInt8} (f : Form s p) : mayP s = true ∧ pay s = p ∧ bytesR s = by8 s.k :: p := by
  cases f with
  | f1 x y t h =>
    have hx := x.toNat_lt
    have hy := y.toNat_lt
    refine ⟨?_, ?_, ?_⟩
    · simp [mayP, shp, rm]; omega
    · simp [pay, shp, beb, fdiv1, by8_self, by8_nat _ h]
    · simp [bytesR, by8_self, by8_nat _ h]
  | f5 x y z u =>
    have hx := x.toNat_lt
    have hy := y.toNat_lt
    have hz := z.toNat_lt
    have hu := u.toNat_lt
    have e1 : (256 * (y.toNat : Int) + (z.toNat : Int)).fdiv 256 = (y.toNat : Int) := by rw [Int.fdiv_eq_ediv_of_nonneg _ (by omega)]; omega
    have e3 : (256 * (y.toNat : Int) + (z.toNat : Int)) / 256 = (y.toNat : Int) := by omega
    have e2 : by8 (256 * (y.toNat : Int) + (z.toNat : Int)) = z := by
      have e5 : (256 * (y.toNat : Int) + (z.toNat : Int)) % 256 = (z.toNat : Int) % 256 := by omega
      have e6 := by8_self z
      unfold by8 at e6 ⊢
      rw [e5]; exact e6
    have e4 : (256 * (y.toNat : Int) + (z.toNat : Int)) % 256 = z.toNat := by omega
    refine ⟨?_, ?_, ?_⟩
    · simp [mayP, shp, rm]; omega
    · simp [pay, shp, beb, fdiv1, by8_self, e1, e2]
    · simp [bytesR, by8_self, e3, e4]
  | f6 => exact ⟨rfl, rfl, rfl⟩
  | fo k hk x =>
    have hx := x.toNat_lt
    rcases hk with rfl | rfl | rfl | rfl | rfl <;>
      exact ⟨by simp [mayP, shp, rm]; omega, by simp [pay, shp, beb, fdiv1, by8_self], by simp [bytesR, by8_self]⟩

theorem may_form {s : Stp} (h : mayP s = true) : Form s (pay s) := by
  have h0 := h
  unfold mayP at h
  split at h
  · cases h
  rename_i hk
  simp only [Bool.and_eq_true] at h
  obtain ⟨⟨⟨ha, hb⟩, hc⟩, ht⟩ := h
  suffices ∃ p, Form s p by obtain ⟨p, f⟩ := this; rw [(form_may f).2.1]; exact f
  obtain ⟨k, a, b, c, t⟩ := s
  dsimp only at ha hb hc ht hk
  have hk : k = 1 ∨ k = 5 ∨ k = 6 ∨ k = 2 ∨ k = 3 ∨ k = 4 ∨ k = 7 ∨ k = 8 := by omega
  rcases hk with rfl | rfl | rfl | rfl | rfl | rfl | rfl | rfl
  · obtain ⟨x, rfl⟩ := rm1 ha
    obtain ⟨y, rfl⟩ := rm1 hb
    obtain rfl := rm0 hc
    have : t.length ≤ 255 := by simp [shp, rm] at ht; omega
    exact ⟨_, .f1 x y t this⟩
  · obtain ⟨x, rfl⟩ := rm1 ha
    obtain ⟨y, z, rfl⟩ := rm2 hb
    obtain ⟨u, rfl⟩ := rm1 hc
    have : t = [] := by simpa [shp, rm] using ht
    subst this
    exact ⟨_, .f5 x y z u⟩
  · obtain rfl := rm0 ha
    obtain rfl := rm0 hb
    obtain rfl := rm0 hc
    have : t = [] := by simpa [shp, rm] using ht
    subst this
    exact ⟨_, .f6⟩
  all_goals
    obtain ⟨x, rfl⟩ := rm1 ha
    obtain rfl := rm0 hb
    obtain rfl := rm0 hc
    have : t = [] := by simpa [shp, rm] using ht
    subst this
  · exact ⟨_, .fo 2 (by decide) x⟩
  · exact ⟨_, .fo 3 (by decide) x⟩
  · exact ⟨_, .fo 4 (by decide) x⟩
  · exact ⟨_, .fo 7 (by decide) x⟩
  · exact ⟨_, .fo 8 (by decide) x⟩

theorem form_one {s : Stp} {p : List UInt8} (f : Form s p) (c : UInt8) (hc : ((c.toNat % 9 : Nat) : Int) = s.k) (rest : List UInt8) : oneRo (c :: (p ++ rest)) = some (s, rest) := by
  cases f <;> dsimp only at hc
  case f1 x y t h =>
    have hk : c.toNat % 9 = 1 := by omega
    have e : t.length % 256 = t.length := by omega
    simp [oneRo, oneN, gd_zero, gd_succ, hk, szr, e]
    have n0 : ¬ (t.length + rest.length < t.length) := by omega
    have n4 : ¬ (t.length + rest.length + 1 + 1 + 1 + 1 < 4) := by omega
    have n5 : ¬ (t.length + rest.length + 1 + 1 + 1 + 1 < 4 + t.length) := by omega
    simp [n0, n4, n5, show 4 + t.length = t.length + 1 + 1 + 1 + 1 by omega]
  case f5 x y z u =>
    have hk : c.toNat % 9 = 5 := by omega
    have n5 : ¬ (rest.length + 1 + 1 + 1 + 1 + 1 < 5) := by omega
    simp [oneRo, oneN, gd_zero, gd_succ, hk, szr, n5]
  case f6 =>
    have hk : c.toNat % 9 = 6 := by omega
    simp [oneRo, oneN, gd_zero, gd_succ, hk, szr]
  case fo k hk' x =>
    have hk : c.toNat % 9 = k := by omega
    have n2 : ¬ (rest.length + 1 + 1 < 2) := by omega
    rcases hk' with rfl | rfl | rfl | rfl | rfl <;> simp [oneRo, oneN, gd_zero, gd_succ, hk, szr, n2]

theorem one_form {c : UInt8} {r : List UInt8} {s : Stp} {rest : List UInt8} (h : oneRo (c :: r) = some (s, rest)) (hc : c.toNat % 9 ≠ 0) : ∃ p, Form s p ∧ r = p ++ rest ∧ s.k = ((c.toNat % 9 : Nat) : Int) := by
  have h9 : c.toNat % 9 < 9 := Nat.mod_lt _ (by decide)
  suffices ∃ s' p rest', Form s' p ∧ r = p ++ rest' ∧ s'.k = ((c.toNat % 9 : Nat) : Int) by
    obtain ⟨s', p, rest', f, rfl, hk⟩ := this
    rw [form_one f c hk.symm rest'] at h
    cases h
    exact ⟨p, f, rfl, hk⟩
  generalize hk : c.toNat % 9 = k at hc h9 ⊢
  have hkk : k = 1 ∨ k = 5 ∨ k = 6 ∨ (k = 2 ∨ k = 3 ∨ k = 4 ∨ k = 7 ∨ k = 8) := by omega
  rcases hkk with rfl | rfl | rfl | hko
  · match r, h with
    | [], h => simp [oneRo, oneN, gd_zero, gd_succ, hk, szr] at h
    | [_], h => simp [oneRo, oneN, gd_zero, gd_succ, hk, szr] at h
    | [_, _], h => simp [oneRo, oneN, gd_zero, gd_succ, hk, szr] at h
    | x :: y :: z :: t, h =>
      by_cases hz : t.length < z.toNat
      · have n4 : ¬ (t.length + 1 + 1 + 1 + 1 < 4) := by omega
        have n5 : t.length + 1 + 1 + 1 + 1 < 4 + z.toNat := by omega
        simp [oneRo, oneN, gd_zero, gd_succ, hk, szr, n4, n5] at h
      · have l : (t.take z.toNat).length = z.toNat := by simp; omega
        have hzl := z.toNat_lt
        refine ⟨_, _, t.drop z.toNat, .f1 x y (t.take z.toNat) (by omega), ?_, rfl⟩
        rw [l]; simp
  · match r, h with
    | [], h => simp [oneRo, oneN, gd_zero, gd_succ, hk, szr] at h
    | [_], h => simp [oneRo, oneN, gd_zero, gd_succ, hk, szr] at h
    | [_, _], h => simp [oneRo, oneN, gd_zero, gd_succ, hk, szr] at h
    | [_, _, _], h => simp [oneRo, oneN, gd_zero, gd_succ, hk, szr] at h
    | x :: y :: z :: u :: t, h => exact ⟨_, _, t, .f5 x y z u, rfl, rfl⟩
  · exact ⟨_, _, r, .f6, rfl, rfl⟩
  · match r, h with
    | [], h =>
      rcases hko with rfl | rfl | rfl | rfl | rfl <;> simp [oneRo, oneN, gd_zero, gd_succ, hk, szr] at h
    | x :: t, h => exact ⟨_, _, t, .fo k hko x, rfl, rfl⟩

/-- A beginning's steps are the steps' beginning; how far one may go does not matter. -/
theorem dec_prefix : ∀ (n n' : Nat) (l m : List UInt8) (k : Nat), l.length ≤ n → (l ++ m).length ≤ n' → dec oneRo n l k <+: dec oneRo n' (l ++ m) k
  | 0, _, [], _, _, _, _ => List.nil_prefix
  | 0, _, _ :: _, _, _, h, _ => by simp at h
  | n + 1, _, [], _, _, _, _ => List.nil_prefix
  | n + 1, 0, c :: r, m, k, _, h => by simp at h
  | n + 1, n' + 1, c :: r, m, k, h, h' => by
    simp only [List.length_cons, List.cons_append, List.length_append] at h h'
    simp only [List.cons_append, dec]
    by_cases hk : 200 ≤ k
    · simp only [hk, if_true]; exact List.prefix_refl _
    · simp only [hk, if_false]
      by_cases hc : c.toNat % 9 = 0
      · simp only [hc, if_true]
        exact dec_prefix n n' r m k (by omega) (by simp; omega)
      · simp only [hc, if_false]
        cases e : oneRo (c :: r) with
        | none => exact List.nil_prefix
        | some x =>
          obtain ⟨s, rest⟩ := x
          obtain ⟨p, f, rfl, hs⟩ := one_form e hc
          rw [List.append_assoc, form_one f c hs.symm (rest ++ m)]
          simp only [List.length_append] at h h'
          exact List.cons_prefix_cons.2 ⟨rfl, dec_prefix n n' rest m (k + 1) (by omega) (by simp; omega)⟩
theorem dec_fuel (n n' : Nat) (l : List UInt8) (k : Nat) (h : l.length ≤ n) (h' : l.length ≤ n') : dec oneRo n l k = dec oneRo n' l k := by
  have a := dec_prefix n n' l [] k h (by simpa using h')
  have b := dec_prefix n' n l [] k h' (by simpa using h)
  rw [List.append_nil] at a b
  exact a.eq_of_length (Nat.le_antisymm a.length_le b.length_le)
theorem decP_short (b : List UInt8) (k : Nat) : decP (b.take k) <+: decP b := by
  rw [decP_R, decP_R]
  have := dec_prefix (b.take k).length b.length (b.take k) (b.drop k) 0 (Nat.le_refl _) (by rw [List.take_append_drop]; exact Nat.le_refl _)
  rw [List.take_append_drop] at this
  exact this

theorem dec_all : ∀ (n : Nat) (l : List UInt8) (k : Nat), (∀ s ∈ dec oneRo n l k, mayP s = true) ∧ ((dec oneRo n l k).flatMap enc1).length ≤ l.length ∧ (dec oneRo n l k).length + k ≤ max k 200
  | 0, _, _ => ⟨by simp [dec], by simp [dec], by simp [dec]; omega⟩
  | n + 1, [], _ => ⟨by simp [dec], by simp [dec], by simp [dec]; omega⟩
  | n + 1, c :: r, k => by
    simp only [dec]
    by_cases hk : 200 ≤ k
    · simp only [hk, if_true]; exact ⟨by simp, by simp, by simp; omega⟩
    · simp only [hk, if_false]
      by_cases hc : c.toNat % 9 = 0
      · simp only [hc, if_true]
        obtain ⟨h1, h2, h3⟩ := dec_all n r k
        exact ⟨h1, by simp only [List.length_cons]; omega, h3⟩
      · simp only [hc, if_false]
        cases e : oneRo (c :: r) with
        | none => exact ⟨by simp, by simp, by simp; omega⟩
        | some x =>
          obtain ⟨s, rest⟩ := x
          obtain ⟨p, f, rfl, hs⟩ := one_form e hc
          obtain ⟨h1, h2, h3⟩ := dec_all n rest (k + 1)
          have hm := form_may f
          refine ⟨?_, ?_, ?_⟩
          · intro s' hs'
            rcases List.mem_cons.1 hs' with rfl | hs'
            · exact hm.1
            · exact h1 s' hs'
          · simp only [List.flatMap_cons, enc1_pay, hm.2.1, List.length_append, List.length_cons]; omega
          · simp only [List.length_cons]; omega
theorem kind_byte {s : Stp} {p : List UInt8} (f : Form s p) : (((by8 s.k).toNat % 9 : Nat) : Int) = s.k ∧ ¬ (by8 s.k).toNat % 9 = 0 := by
  cases f with
  | f1 => exact ⟨rfl, by dsimp only; decide⟩
  | f5 => exact ⟨rfl, by dsimp only; decide⟩
  | f6 => exact ⟨rfl, by dsimp only; decide⟩
  | fo k hk => rcases hk with rfl | rfl | rfl | rfl | rfl <;> exact ⟨rfl, by dsimp only; decide⟩
theorem dec_enc : ∀ (L : List Stp) (n k : Nat), (∀ s ∈ L, mayP s = true) → k + L.length ≤ 200 → (L.flatMap enc1).length ≤ n → dec oneRo n (L.flatMap enc1) k = L
  | [], 0, _, _, _, _ => rfl
  | [], n + 1, _, _, _, _ => rfl
  | s :: L, 0, _, _, _, h => by simp [enc1_pay] at h
  | s :: L, n + 1, k, hm, hk, h => by
    have f := may_form (hm s (by simp))
    have hb := kind_byte f
    simp only [List.flatMap_cons, enc1_pay, List.cons_append, List.length_cons, List.length_append] at h hk ⊢
    have e : List.flatMap (fun s => by8 s.k :: pay s) L = L.flatMap enc1 := by congr 1; funext s; rw [enc1_pay]
    simp only [dec]
    rw [if_neg (by omega), if_neg hb.2, form_one f _ hb.1]
    dsimp only
    rw [dec_enc L n (k + 1) (fun s h => hm s (by simp [h])) (by omega) (by omega)]

theorem may_PR (s : Stp) : mayP s = mayR s := by
  cases h : mayP s with
  | true =>
    have f := may_form h
    have hf := form_may f
    have e : decR (bytesR s) = [s] := by
      have := dec_enc [s] (bytesR s).length 0 (by simpa using h) (by simp) (by simp [enc1_pay, hf.2.2])
      simp only [List.flatMap_cons, List.flatMap_nil, List.append_nil, enc1_pay] at this
      unfold decR
      rw [hf.2.2] at this ⊢
      exact this
    have hr : s.room = true := by
      generalize pay s = p at f
      cases f with
      | f1 x y t h => have hx := x.toNat_lt; have hy := y.toNat_lt; simp [Stp.room]; omega
      | f5 x y z u => have hx := x.toNat_lt; have hy := y.toNat_lt; have hz := z.toNat_lt; have hu := u.toNat_lt; simp [Stp.room]; omega
      | f6 => rfl
      | fo k hk x => have hx := x.toNat_lt; rcases hk with rfl | rfl | rfl | rfl | rfl <;> simp [Stp.room] <;> omega
    simp [mayR, hr, e]
  | false =>
    unfold mayR
    symm
    rw [Bool.and_eq_false_iff]
    right
    rw [decide_eq_false_iff_not]
    intro e
    have := (dec_all _ (bytesR s) 0).1 s (by unfold decR at e; rw [e]; simp)
    rw [this] at h; cases h
theorem flat_PR : ∀ (l : List Stp) (_ : ∀ s ∈ l, mayP s = true), l.flatMap enc1 = l.flatMap bytesR
  | [], _ => rfl
  | s :: r, h => by
    have f := form_may (may_form (h s (by simp)))
    rw [List.flatMap_cons, List.flatMap_cons, flat_PR r (fun x hx => h x (by simp [hx])), enc1_pay, f.2.2]
theorem enc_PR (l : List Stp) : encP l = encR l := by
  have e : mayP = mayR := funext may_PR
  unfold encP encR
  rw [← e]
  by_cases h : l.all mayP = false
  · simp only [h, if_true]
  · simp only [h, if_false]
    by_cases h2 : l.length > 200
    · simp only [h2, if_true]
    · simp only [h2, if_false]
      have h : l.all mayP = true := by simpa using h
      rw [List.all_eq_true] at h
      rw [flat_PR l h]
theorem encP_back (l : List Stp) (h : (encP l).2 = 0) : decP (encP l).1 = l := by
  unfold encP at h ⊢
  split at h
  · cases h
  · split at h
    · cases h
    · rename_i h1 h2
      rw [if_neg h1, if_neg h2, decP_R]
      exact dec_enc l _ 0 (by simpa using h1) (by omega) (Nat.le_refl _)
theorem decP_said (b : List UInt8) : (decP b).length ≤ 200 ∧ (∀ s ∈ decP b, mayP s = true) ∧ encP (decP b) = ((decP b).flatMap enc1, 0) ∧ ((decP b).flatMap enc1).length ≤ b.length ∧ decP ((decP b).flatMap enc1) = decP b := by
  rw [decP_R]
  obtain ⟨h1, h2, h3⟩ := dec_all b.length b 0
  have h1' : (decR b).all mayP = true := List.all_eq_true.2 h1
  have h3' : (decR b).length ≤ 200 := by unfold decR; omega
  refine ⟨h3', h1, ?_, h2, ?_⟩
  · unfold encP
    rw [if_neg (by rw [h1']; simp), if_neg (by omega)]
  · rw [decP_R]
    exact dec_enc _ _ 0 h1 (by omega) (Nat.le_refl _)
end Go.Proofs.Ytbncidjnjkhpfaa
