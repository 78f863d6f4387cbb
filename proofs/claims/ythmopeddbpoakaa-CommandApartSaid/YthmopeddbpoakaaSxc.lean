/- The walker's third part: equality of structs and arrays, copies. No program in it. -/
import Derived.Test.YthmopeddbpoakaaSxb
import Derived.DeepKeys
/- Equality of values that are made of numbers, bools, strings, structs, arrays: by their shapes. No program in it. -/
namespace Go.Sx

def Sh.cmp : Sh → Bool
  | .int _ | .bool | .str | .unit | .barr _ => true
  | .pair a b => a.cmp && b.cmp
  | .array _ e => e.cmp
  | .bytes | .slice _ => false
def Sh.lits : (s : Sh) → s.T → List Lit
  | .int k, n => [.int k n]
  | .bool, b => [.bool b]
  | .str, s => [.string s.data.toList]
  | .unit, _ => []
  | .pair a b, x => a.lits x.1 ++ b.lits x.2
  | .barr _, l => (l : List UInt8).map fun c => .int .u8 c.toNat
  | .array _ e, l => (l : List e.T).flatMap e.lits
  | .bytes, _ => []
  | .slice _, _ => []
def Sh.deep : Sh → Nat
  | .pair a b => max (a.deep + 1) b.deep
  | .array _ e => e.deep + 1
  | .barr _ => 1
  | _ => 0

theorem mapM_some {α β : Type} {f : α → Option β} {g : α → β} : ∀ {l : List α}, (∀ x ∈ l, f x = some (g x)) → l.mapM f = some (l.map g)
  | [], _ => rfl
  | x :: r, h => by
    rw [List.mapM_cons, h x (by simp), mapM_some (fun y hy => h y (by simp [hy]))]
    rfl
theorem flat_single {α β : Type} (g : α → β) : ∀ l : List α, (l.map fun c => [g c]).flatten = l.map g
  | [] => rfl
  | c :: r => by simp [flat_single g r]
theorem mapM_range' {β : Type} {f : Nat → Option β} : ∀ (l : List β) (k : Nat), (∀ i (hi : i < l.length), f (k + i) = some l[i]) → (List.range' k l.length).mapM f = some l
  | [], _, _ => rfl
  | x :: r, k, h => by
    rw [List.length_cons, List.range'_succ, List.mapM_cons]
    have h0 := h 0 (by simp)
    simp only [Nat.add_zero, List.getElem_cons_zero] at h0
    rw [h0, mapM_range' r (k + 1) fun i hi => by
      have := h (i + 1) (by simpa using hi)
      rw [show k + 1 + i = k + (i + 1) by omega, this]; simp]
    rfl
theorem mapM_range {β : Type} {f : Nat → Option β} {n : Nat} {l : List β} (hl : l.length = n) (h : ∀ i (hi : i < l.length), f i = some l[i]) : (List.range n).mapM f = some l := by
  subst hl
  rw [List.range_eq_range']
  exact mapM_range' l 0 fun i hi => by rw [Nat.zero_add]; exact h i hi

section
variable {P : Program} {R : HProp}
mutual
theorem lits_good : ∀ (s : Sh) {t D m : Nat} {v : s.T} {cs : List Value}, s.cmp = true → Fits P s t = true → P.keyTypeAt m t = true → Good R s v cs → s.deep < D → P.keyLits D t cs = some (s.lits v)
  | _, _, 0, _, _, _, _, _, _, _, h => absurd h (by omega)
  | .int k, t, D + 1, m, v, cs, _, hf, _, hg, _ => by
    simp only [Fits] at hf
    split at hf
    · rename_i k' hu
      obtain rfl := kind_eq hf
      obtain ⟨rfl, hw⟩ := hg
      simp [Program.keyLits, hu, hw, Sh.lits]
    · cases hf
  | .bool, t, D + 1, m, v, cs, _, hf, _, hg, _ => by
    simp only [Fits] at hf
    split at hf
    · rename_i hu
      have hg : cs = [.bool v] := hg
      subst hg
      simp [Program.keyLits, hu, Sh.lits]
    · cases hf
  | .str, t, D + 1, m, v, cs, _, hf, _, hg, _ => by
    simp only [Fits] at hf
    split at hf
    · rename_i hu
      obtain ⟨rfl, hw⟩ := hg
      simp [Program.keyLits, hu, hw, Sh.lits]
    · cases hf
  | .unit, t, D + 1, m, v, cs, _, hf, _, hg, _ => by
    simp only [Fits] at hf
    split at hf
    · rename_i fs hu
      simp only [Bool.and_eq_true, beq_iff_eq] at hf
      have hg : cs = [] := hg
      subst hg
      have : fs = #[] := Array.eq_empty_of_size_eq_zero hf.1
      subst this
      simp [Program.keyLits, hu, hf.2, Sh.lits]
    · cases hf
  | .pair a b, t, D + 1, m, v, cs, hc, hf, hk, hg, hd => by
    have hl := Good.length hg
    simp only [Fits] at hf
    split at hf
    · rename_i fs hu
      simp only [Bool.and_eq_true, beq_iff_eq] at hf
      cases m with
      | zero => simp [Program.keyTypeAt] at hk
      | succ m =>
        simp only [Program.keyTypeAt, hu, Bool.and_eq_true] at hk
        have hall : ∀ f ∈ fs.toList, f.name ≠ "_" ∧ P.keyTypeAt m f.type = true := by
          intro f hfm
          have := (Array.all_eq_true_iff_forall_mem.1 hk.1.1) f (by simpa using hfm)
          simpa using this
        obtain ⟨L, h1, h2⟩ := lits_fs (.pair a b) (D := D) (cs := cs) hc hf.1 hg (fun f h => (hall f h).2) hd (by simp only [Sh.size] at hl ⊢; omega) (by rw [List.drop_zero, List.take_of_length_le (by omega)])
        have hn : fs.all (fun f => f.name != "_") = true := by
          rw [Array.all_eq_true_iff_forall_mem]
          intro f hfm
          simpa using (hall f (by simpa using hfm)).1
        have hlen : cs.length = P.cellsOf t := by rw [hl, hf.2]; rfl
        unfold Program.keyLits
        simp only [hu]
        rw [if_pos ⟨hlen, hn⟩, h1]
        simp [h2]
    · cases hf
  | .barr n, t, D + 1, m, v, cs, hc, hf, hk, hg, hd => by
    simp only [Fits] at hf
    split at hf
    · rename_i n' e hu
      simp only [Bool.and_eq_true, beq_iff_eq] at hf
      obtain ⟨⟨⟨rfl, h1⟩, h2⟩, h3⟩ := hf
      split at h1
      · rename_i k' hu'
        obtain rfl := kind_eq h1
        obtain ⟨hl, rfl⟩ := hg
        have hl : (v : List UInt8).length = n' := hl
        have hlen : (u8s v).length = P.cellsOf t := by rw [u8s_length, hl, h3]
        cases D with
        | zero => simp [Sh.deep] at hd
        | succ D =>
          unfold Program.keyLits
          simp only [hu]
          rw [if_pos hlen, mapM_range (l := (v : List UInt8).map fun c => [Lit.int .u8 c.toNat]) (by simpa using hl)]
          · simp only [Sh.lits, Option.map_some]
            rw [flat_single]
          · intro i hi
            simp only [List.length_map] at hi
            have e1 : ((u8s v).drop (i * P.cellsOf e)).take (P.cellsOf e) = [u8 (v : List UInt8)[i]] := by
              rw [h2, Nat.mul_one, List.take_one, List.head?_drop, u8s_get hi]; rfl
            rw [e1]
            have hw : (Lit.int .u8 ((v : List UInt8)[i].toNat : Int)).wf = true := by
              have := u8_lt (v : List UInt8)[i]
              simp [Lit.wf, IntKind.min, IntKind.max, IntKind.signed, IntKind.bits]; omega
            simp [Program.keyLits, hu', u8, hw]
      · cases h1
    · cases hf
  | .array n s, t, D + 1, m, v, cs, hc, hf, hk, hg, hd => by
    have hl := Good.length hg
    simp only [Fits] at hf
    split at hf
    · rename_i n' e hu
      simp only [Bool.and_eq_true, beq_iff_eq] at hf
      obtain ⟨⟨⟨rfl, h1⟩, h2⟩, h3⟩ := hf
      cases m with
      | zero => simp [Program.keyTypeAt] at hk
      | succ m =>
        simp only [Program.keyTypeAt, hu] at hk
        obtain ⟨hn, css, rfl, hcl, hgood⟩ := hg
        have hn : (v : List s.T).length = _ := hn
        have hlen : css.flatten.length = P.cellsOf t := by rw [hl, h3]; rfl
        have hcs : ∀ c ∈ css, c.length = s.size := by
          intro c hc
          obtain ⟨i, hi⟩ := List.getElem?_of_mem hc
          have hlt := (List.getElem?_eq_some_iff.1 hi).1
          exact Good.length (hgood i _ c (List.getElem?_eq_getElem (by omega)) hi)
        unfold Program.keyLits
        simp only [hu]
        rw [if_pos hlen, mapM_range (l := (v : List s.T).map s.lits) (by simpa using hn)]
        · simp [Sh.lits, List.flatMap]
        · intro i hi
          simp only [List.length_map] at hi
          have hci : css[i]? = some css[i] := List.getElem?_eq_getElem (by omega)
          rw [h2, flatten_at hcs hci]
          have := lits_good s (D := D) hc h1 hk (hgood i _ _ (List.getElem?_eq_getElem hi) hci) (by simp only [Sh.deep] at hd; omega)
          rw [this]; simp
    · cases hf
  | .bytes, _, _ + 1, _, _, _, hc, _, _, _, _ => by simp [Sh.cmp] at hc
  | .slice _, _, _ + 1, _, _, _, hc, _, _, _, _ => by simp [Sh.cmp] at hc
theorem lits_fs : ∀ (s : Sh) {fs : List Field} {off D m : Nat} {v : s.T} {cs cs' : List Value}, s.cmp = true → FitsFs P s fs off = true → Good R s v cs' → (∀ f ∈ fs, P.keyTypeAt m f.type = true) → s.deep < D + 1 →
    off + s.size ≤ cs.length → (cs.drop off).take s.size = cs' → ∃ L, fs.mapM (fun f => P.keyLits D f.type ((cs.drop f.offset).take (P.cellsOf f.type))) = some L ∧ L.flatten = s.lits v
  | .unit, fs, off, D, m, v, cs, cs', _, hf, _, _, _, _, _ => by
    simp only [FitsFs, List.isEmpty_iff] at hf
    subst hf
    exact ⟨[], rfl, rfl⟩
  | .pair a b, [], off, D, m, v, cs, cs', _, hf, _, _, _, _, _ => by simp [FitsFs] at hf
  | .pair a b, f :: fs, off, D, m, v, cs, cs', hc, hf, hg, hk, hd, hl, he => by
    simp only [FitsFs, Bool.and_eq_true, beq_iff_eq] at hf
    obtain ⟨⟨⟨rfl, h1⟩, h2⟩, h3⟩ := hf
    simp only [Sh.cmp, Bool.and_eq_true] at hc
    obtain ⟨x, y⟩ := v
    obtain ⟨c1, c2, rfl, g1, g2⟩ := hg
    have l1 := Good.length g1
    have l2 := Good.length g2
    simp only [Sh.size] at hl he
    simp only [Sh.deep] at hd
    have e1 : (cs.drop f.offset).take a.size = c1 := by
      have := congrArg (List.take a.size) he
      rw [List.take_take, Nat.min_eq_left (by omega), ← l1, List.take_left] at this
      rw [← l1]; exact this
    have e2 : (cs.drop (f.offset + a.size)).take b.size = c2 := by
      have := congrArg (List.drop a.size) he
      rw [List.drop_take, List.drop_drop, ← l1, List.drop_left, show c1.length + b.size - c1.length = b.size by omega] at this
      rw [← l1]; exact this
    have k1 := lits_good a (D := D) hc.1 h1 (hk f (by simp)) g1 (by omega)
    obtain ⟨L, m1, m2⟩ := lits_fs b (D := D) hc.2 h3 g2 (fun g hg => hk g (by simp [hg])) (by omega) (by omega) e2
    refine ⟨a.lits x :: L, ?_, ?_⟩
    · rw [List.mapM_cons, h2, e1, k1, m1]; rfl
    · simp [Sh.lits, m2]
  | .int _, _, _, _, _, _, _, _, _, hf, _, _, _, _, _ => by simp [FitsFs] at hf
  | .bool, _, _, _, _, _, _, _, _, hf, _, _, _, _, _ => by simp [FitsFs] at hf
  | .str, _, _, _, _, _, _, _, _, hf, _, _, _, _, _ => by simp [FitsFs] at hf
  | .bytes, _, _, _, _, _, _, _, _, hf, _, _, _, _, _ => by simp [FitsFs] at hf
  | .slice _, _, _, _, _, _, _, _, _, hf, _, _, _, _, _ => by simp [FitsFs] at hf
  | .barr _, _, _, _, _, _, _, _, _, hf, _, _, _, _, _ => by simp [FitsFs] at hf
  | .array _ _, _, _, _, _, _, _, _, _, hf, _, _, _, _, _ => by simp [FitsFs] at hf
end

theorem lits_inj : ∀ (s : Sh) {v v' : s.T} {cs cs' : List Value} {R' : HProp}, s.cmp = true → Good R s v cs → Good R' s v' cs' → s.lits v = s.lits v' → v = v'
  | .int k, v, v', _, _, _, _, _, _, h => by simp only [Sh.lits] at h; injection h with h _; injection h
  | .bool, v, v', _, _, _, _, _, _, h => by simp only [Sh.lits] at h; injection h with h _; injection h
  | .str, v, v', _, _, _, _, _, _, h => by
    simp only [Sh.lits] at h
    injection h with h _
    injection h with h
    exact ByteArray.ext (Array.toList_inj.1 h)
  | .unit, _, _, _, _, _, _, _, _, _ => rfl
  | .pair a b, (x, y), (x', y'), _, _, _, hc, ⟨_, _, _, g1, g2⟩, ⟨_, _, _, g1', g2'⟩, h => by
    simp only [Sh.cmp, Bool.and_eq_true] at hc
    simp only [Sh.lits] at h
    have hl : (a.lits x).length = (a.lits x').length := lits_len a hc.1 g1 g1'
    obtain ⟨h1, h2⟩ := List.append_inj h hl
    rw [lits_inj a hc.1 g1 g1' h1, lits_inj b hc.2 g2 g2' h2]
  | .barr n, v, v', _, _, _, _, _, _, h => by
    simp only [Sh.lits] at h
    have : ∀ (l m : List UInt8), (l.map fun c => Lit.int .u8 (c.toNat : Int)) = (m.map fun c => Lit.int .u8 (c.toNat : Int)) → l = m := by
      intro l
      induction l with
      | nil => intro m h; cases m with
        | nil => rfl
        | cons _ _ => simp at h
      | cons c r ih => intro m h; cases m with
        | nil => simp at h
        | cons d s =>
          simp only [List.map_cons, List.cons.injEq, Lit.int.injEq, true_and] at h
          have e : c = d := UInt8.toNat_inj.1 (by omega)
          rw [e, ih s h.2]
    exact this _ _ h
  | .array n s, v, v', _, _, R', hc, ⟨hn, css, _, hcl, hg⟩, ⟨hn', css', _, hcl', hg'⟩, h => by
    simp only [Sh.cmp] at hc
    simp only [Sh.lits] at h
    have key : ∀ (l l' : List s.T) (css css' : List (List Value)), css.length = l.length → css'.length = l'.length → l.length = l'.length → (∀ (i : Nat) x c, l[i]? = some x → css[i]? = some c → Good R s x c) →
        (∀ (i : Nat) x c, l'[i]? = some x → css'[i]? = some c → Good R' s x c) → l.flatMap s.lits = l'.flatMap s.lits → l = l' := by
      intro l
      induction l with
      | nil => intro l' _ _ _ _ hl _ _ _; cases l' with
        | nil => rfl
        | cons _ _ => simp at hl
      | cons x r ih =>
        intro l' css css' h1 h2 hl k1 k2 h
        cases l' with
        | nil => simp at hl
        | cons x' r' =>
          cases css with
          | nil => simp at h1
          | cons c css =>
            cases css' with
            | nil => simp at h2
            | cons c' css' =>
              have g1 := k1 0 x c rfl rfl
              have g2 := k2 0 x' c' rfl rfl
              simp only [List.flatMap_cons] at h
              obtain ⟨e1, e2⟩ := List.append_inj h (lits_len s hc g1 g2)
              rw [lits_inj s hc g1 g2 e1, ih r' css css' (by simpa using h1) (by simpa using h2) (by simpa using hl) (fun i x c hx hc => k1 (i + 1) x c (by simpa using hx) (by simpa using hc)) (fun i x c hx hc => k2 (i + 1) x c (by simpa using hx) (by simpa using hc)) e2]
    exact key v v' css css' hcl hcl' (hn.trans hn'.symm) hg hg' h
  | .bytes, _, _, _, _, _, hc, _, _, _ => by simp [Sh.cmp] at hc
  | .slice _, _, _, _, _, _, hc, _, _, _ => by simp [Sh.cmp] at hc
where
  lits_len : ∀ (s : Sh) {v v' : s.T} {cs cs' : List Value} {R' : HProp}, s.cmp = true → Good R s v cs → Good R' s v' cs' → (s.lits v).length = (s.lits v').length
  | .int _, _, _, _, _, _, _, _, _ => rfl
  | .bool, _, _, _, _, _, _, _, _ => rfl
  | .str, _, _, _, _, _, _, _, _ => rfl
  | .unit, _, _, _, _, _, _, _, _ => rfl
  | .pair a b, (x, y), (x', y'), _, _, _, hc, ⟨_, _, _, g1, g2⟩, ⟨_, _, _, g1', g2'⟩ => by
    simp only [Sh.cmp, Bool.and_eq_true] at hc
    simp only [Sh.lits, List.length_append, lits_len a hc.1 g1 g1', lits_len b hc.2 g2 g2']
  | .barr n, v, v', _, _, _, _, ⟨h, _⟩, ⟨h', _⟩ => by
    simp only [Sh.lits, List.length_map]
    exact h.trans h'.symm
  | .array n s, v, v', _, _, R', hc, ⟨hn, css, _, hcl, hg⟩, ⟨hn', css', _, hcl', hg'⟩ => by
    simp only [Sh.cmp] at hc
    simp only [Sh.lits]
    have key : ∀ (l l' : List s.T) (css css' : List (List Value)), css.length = l.length → css'.length = l'.length → l.length = l'.length → (∀ (i : Nat) x c, l[i]? = some x → css[i]? = some c → Good R s x c) →
        (∀ (i : Nat) x c, l'[i]? = some x → css'[i]? = some c → Good R' s x c) → (l.flatMap s.lits).length = (l'.flatMap s.lits).length := by
      intro l
      induction l with
      | nil => intro l' _ _ _ _ hl _ _; cases l' with
        | nil => rfl
        | cons _ _ => simp at hl
      | cons x r ih =>
        intro l' css css' h1 h2 hl k1 k2
        cases l' with
        | nil => simp at hl
        | cons x' r' =>
          cases css with
          | nil => simp at h1
          | cons c css =>
            cases css' with
            | nil => simp at h2
            | cons c' css' =>
              simp only [List.flatMap_cons, List.length_append]
              rw [lits_len s hc (k1 0 x c rfl rfl) (k2 0 x' c' rfl rfl), ih r' css css' (by simpa using h1) (by simpa using h2) (by simpa using hl) (fun i x c hx hc => k1 (i + 1) x c (by simpa using hx) (by simpa using hc)) (fun i x c hx hc => k2 (i + 1) x c (by simpa using hx) (by simpa using hc))]
    exact key v v' css css' hcl hcl' (hn.trans hn'.symm) hg hg'
  | .bytes, _, _, _, _, _, hc, _, _ => by simp [Sh.cmp] at hc
  | .slice _, _, _, _, _, _, hc, _, _ => by simp [Sh.cmp] at hc

/-- '==' of two structs, or arrays. -/
theorem eq_agg {t m : Nat} {s : Sh} {v v' : s.T} {cs cs' : List Value} {R R' : HProp} {f : Bool → Prop} (hs : ∃ a b, s = .pair a b ∨ ∃ n, s = .barr n ∨ s = .array n a) (hc : s.cmp = true) (hf : Fits P s t = true) (hk : P.keyTypeAt m t = true) (hm : m ≤ 10000)
    (hq : P.eqGuardType P.depth t = false) (g : Good R s v cs) (g' : Good R' s v' cs') (h : ∀ b : Bool, (b = true ↔ v = v') → f b) : EqAgg P t cs cs' f := by
  have l1 := lits_good s (D := s.deep + 1) hc hf hk g (by omega)
  have l2 := lits_good s (D := s.deep + 1) hc hf hk g' (by omega)
  have formed : ∀ {v : s.T} {cs : List Value} {R : HProp}, Good R s v cs → (Value.agg cs.toArray).formed P t = true := by
    intro v cs R g
    have hl := Good.length g
    obtain ⟨a, b, rfl | ⟨n, rfl | rfl⟩⟩ := hs <;> simp only [Fits] at hf <;> split at hf <;> first | cases hf | (rename_i hu; simp only [Bool.and_eq_true, beq_iff_eq] at hf; simp only [Value.formed, hu, List.size_toArray, hl]; simp [Sh.size, hf])
  refine ⟨⟨@decide (s.lits v = s.lits v') (Classical.propDecidable _), fun w => ?_, h _ ?_⟩⟩
  · obtain ⟨r, hr, hiff⟩ := run_equalIn_deep (10000 - m) m t hk w (s.deep + 1) (s.deep + 1) (.agg cs.toArray) (.agg cs'.toArray) (s.lits v) (s.lits v') (formed g) (formed g') (by simpa [Value.cells] using l1) (by simpa [Value.cells] using l2)
    rw [show 10000 - m + m = 10000 by omega] at hr
    have e : r = @decide (s.lits v = s.lits v') (Classical.propDecidable _) := by
      cases r with
      | true => exact (@decide_eq_true _ (Classical.propDecidable _) (hiff.1 rfl)).symm
      | false => exact (@decide_eq_false _ (Classical.propDecidable _) (fun e => by cases hiff.2 e)).symm
    rw [← e]
    have hg : (eqGuard .eql t (.tmp 0) (.tmp 0) (.agg cs.toArray) (.agg cs'.toArray)).run P w = .ok () w := by
      simp [eqGuard, hq]
    simp only [Sem.run_bind, hg, Result.andThen_ok]
    exact hr
  · exact ⟨fun e => lits_inj s hc g g' (@of_decide_eq_true _ (Classical.propDecidable _) e), fun e => @decide_eq_true _ (Classical.propDecidable _) (by rw [e])⟩
end
end Go.Sx

/- copy into a block of one's own. No program in it. -/
namespace Go.Sx

theorem copy_slc {P : Program} {t e ty i off len cap k ts : Nat} {x y : TyX} {ys : List Value} {B : Names} {H : List Chunk} {F : List HProp} {src : SV} {f : SV → M → Prop}
    (hsrc : Src ⟨B, H, F⟩ src k ys) (hys : ys.length = k * y.size) (h1 : ∀ v ∈ ys, v.oneCell' = true) (hk : k ≤ len)
    (h : atH H i fun segs _ put => putV segs off (k * y.size) [.many (k * y.size) ys] fun segs' => put segs' fun H' => f (.c (.int .i64 k)) ⟨B, H', F⟩) :
    With (Ty P t x ∧ x.k = .slice e ∧ Ty P e y) (RunOb P (Builtin.copy_ #[t, ts] ty ([SV.c (.slc i off len cap), src].map (SV.den B)).toArray) ⟨B, H, F⟩ f) := by
  refine ⟨fun ⟨T, hk', E⟩ => ⟨fun km w hs => ?_⟩⟩
  have hu := und_slice T hk'
  have s1 := hsrc.run (P := P) km hs rfl hys
  obtain ⟨H1, s, t', H2, put, rfl, h, hput⟩ := atH_spec h
  have ks := (km (i, s, t') (by simp)).2
  obtain ⟨l, h, kl, hfit, hl⟩ := putV_spec ks (by intro s' hs'; simp at hs'; subst hs'; exact ⟨hys, h1⟩) h
  have hw := put_chunk (s' := l) hs km kl
  have hb := sat_chunk hs
  have hst := run_storeCells_at P (bl B i) off t' ys 0 _ w hb (by simpa [hys] using hfit) h1
  have el : dens B [.many (k * y.size) ys] = ys := by simp [dens, Seg.den]
  rw [el] at hl
  refine ⟨.int .i64 k, w.setRow (bl B i) (dens B l).toArray, ?_, .c (.int .i64 k), ⟨B, H1 ++ (i, l, t') :: H2, F⟩, rfl, trivial, hw.2, hw.1, .inl rfl, hput _ _ h⟩
  show (Builtin.copy_ #[t, ts] ty #[.slice (some ⟨bl B i, off, none⟩) len cap, src.den B]).run P w = _
  have hund : (underlying t).run P w = .ok (.slice e) w := run_underlying hu w
  have hmin : Nat.min k len = k := Nat.min_eq_left hk
  have s1 : (Builtin.lenOf (src.den B)).run P w = .ok k w ∧ (Builtin.firstCells y.size k (src.den B)).run P w = .ok ys.toArray w := s1
  simp only [Nat.add_zero, hys] at hst
  simp [Builtin.copy_, hund, s1.1, hmin, E.run_sizeOf w, s1.2, hst, hl, goInt]
end Go.Sx

/- Rows inside a block. No program in it. -/
namespace Go.Sx
theorem rd_at {b t : Nat} {p l r : List Value} {fz : Nat × Nat} {n : Nat} (hn : p.length = n) : Rd (blk b (.cells (p ++ (l ++ r)).toArray t fz)) (some (radr (b, n))) l :=
  Rd.blk rfl fun j u h => by
    show (p ++ (l ++ r)).toArray[n + j]? = some u
    have hj := (List.getElem?_eq_some_iff.1 h).1
    rw [List.getElem?_toArray, List.getElem?_append_right (by omega), show n + j - p.length = j by omega, List.getElem?_append_left hj]; exact h
end Go.Sx
namespace Go.Sx
theorem elem_u8 {B : Names} {l : List UInt8} {j : Nat} {f : SC → Prop} (k : Nat) (hj : j = k) (hk : k < l.length) (h : f (.int .u8 (gd l k))) : Elem B (u8s l) j f :=
  ⟨⟨.int .u8 (gd l k), by subst hj; rw [u8s_get hk, gd_eq hk]; rfl, trivial, h⟩⟩
/-- Bytes that are filled up, one by one. -/
def fillL (l : List UInt8) (n i : Nat) : List Value := u8s (l.take i) ++ List.replicate (n - i) (.int .u8 0)
theorem fillL_len {l : List UInt8} {n i : Nat} (h : i ≤ l.length) (hi : i ≤ n) : (fillL l n i).length = n := by simp [fillL, u8s_length]; omega
theorem fillL_ok {l : List UInt8} {n i : Nat} (h : i ≤ l.length) (hi : i ≤ n) : ∀ B, Seg.ok B (.many n (fillL l n i)) := fun _ => ⟨fillL_len h hi, fun v hv => by
  rcases List.mem_append.1 hv with hv | hv
  · exact u8s_one _ v hv
  · simp at hv; rw [hv.2]; rfl⟩
theorem fillL_set {l : List UInt8} {n i : Nat} (h : i < l.length) (hi : i < n) (v : Value) (hv : v = u8 l[i]) : (fillL l n i).take i ++ ([v] ++ (fillL l n i).drop (i + 1)) = fillL l n (i + 1) := by
  have e1 : (u8s (l.take i)).length = i := by rw [u8s_length, List.length_take]; omega
  have e2 : l.take (i + 1) = l.take i ++ [l[i]] := List.take_succ_eq_append_getElem h
  obtain ⟨k, hk⟩ : ∃ k, n - i = k + 1 := ⟨n - i - 1, by omega⟩
  have hk' : n - (i + 1) = k := by omega
  have e3 : u8s [l[i]] = [v] := by rw [hv]; rfl
  unfold fillL
  rw [hk, hk', e2, u8s_append, e3, List.replicate_succ]
  clear e3 e2 hv
  generalize u8s (l.take i) = L at e1 ⊢
  clear hk hk' hi h
  subst e1
  simp [List.take_append, List.drop_append]
theorem fillL_all {l : List UInt8} {n : Nat} (h : l.length = n) : fillL l n n = u8s l := by simp [fillL, ← h]
theorem fillL_zero {l : List UInt8} {n : Nat} : fillL l n 0 = List.replicate n (.int .u8 0) := by simp [fillL, u8s]
end Go.Sx
