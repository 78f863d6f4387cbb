/- The document's tables of messages, plain; they answer as the program's. -/
import Derived.Test.YtiimeklgjoclpaaGt
namespace Go.Proofs.Ytiimeklgjoclpaa
open Go.Sx
set_option maxRecDepth 100000
set_option linter.unusedSimpArgs false
set_option linter.unusedVariables false

/-- A message of the document: its pieces, since when. -/
structure Ms where
  ps : List Pc
  since : Int
def Ms.hd (m : Ms) : Pc := m.ps.headD pc0
structure Ms.inv (m : Ms) : Prop where
  ne : m.ps ≠ []
  un : ∀ p ∈ m.ps, p.u = m.hd.u ∧ p.n = m.hd.n ∧ p.t = m.hd.t ∧ 0 ≤ p.i ∧ p.i < m.hd.t
  t : m.hd.t ≤ 8
  lt : (m.ps.length : Int) < m.hd.t
  nd : (m.ps.map (·.i)).Nodup
  wf : ∀ p ∈ m.ps, p.wf ∧ p.b.length ≤ 240
def got (ps : List Pc) (i : Nat) : Option (List UInt8) := (ps.find? (fun p => decide (p.i = (i : Int)))).map (·.b)
def abM (m : Ms) : Ab := ⟨m.hd.u, m.hd.n, m.since, m.hd.t - m.ps.length, (List.range m.hd.t.toNat).map (got m.ps)⟩
def at1 (ps : List Pc) (i : Nat) : List UInt8 := ((ps.filter fun p => decide (p.i = (i : Int))).map (·.b)).flatten
def joinD (ps : List Pc) (k : Nat) : List UInt8 := ((List.range k).map (at1 ps)).flatten
def wholeD (m : Ms) : List UInt8 × Bool := if (m.ps.length : Int) < m.hd.t then ([], false) else (joinD m.ps m.ps.length, true)
def fndO (u n : Int) (L : List Ms) : Option Nat := L.findIdx? (fun m => decide (m.hd.u = u ∧ m.hd.n = n))
def putD (L : List Ms) (o : Option Nat) (m : Ms) (gone : Bool) : List Ms :=
  match o with
  | none => if gone then L else L ++ [m]
  | some i => if gone then L.eraseIdx i else L.set i m
def finD (L : List Ms) (o : Option Nat) (m : Ms) : List Ms × List UInt8 × Bool × Int := (putD L o m (wholeD m).2, (wholeD m).1, (wholeD m).2, 0)
def takeD (room now : Int) (c : Pc) (L : List Ms) : List Ms × List UInt8 × Bool × Int :=
  if c.may = true ∧ c.k = 1 ∧ 0 ≤ now ∧ now ≤ 1099511627776 then
    match fndO c.u c.n L with
    | none => if (L.length : Int) ≥ room then (L, [], false, 8) else finD L none ⟨[c], now⟩
    | some i => match L[i]? with
      | none => (L, [], false, 2)
      | some m => if m.hd.t ≠ c.t then (L, [], false, 5) else if m.ps.any (fun p => decide (p.i = c.i)) then (L, [], false, 10) else finD L (some i) ⟨m.ps ++ [c], m.since⟩
  else (L, [], false, 2)
def expD (now : Int) (L : List Ms) : List Ms := if 0 ≤ now ∧ now ≤ 1099511627776 then L.filter fun m => decide (m.since > now - 128) else L

theorem got_snoc {ps : List Pc} {c : Pc} {k : Nat} (hc : c.i = k) (hn : ∀ p ∈ ps, p.i ≠ c.i) (j : Nat) : got (ps ++ [c]) j = if j = k then some c.b else got ps j := by
  unfold got
  rw [List.find?_append]
  by_cases h : j = k
  · subst h
    rw [if_pos rfl, List.find?_eq_none.2 (fun p hp => by simpa [← hc] using hn p hp)]
    simp [hc]
  · rw [if_neg h]
    have : ([c].find? fun p => decide (p.i = (j : Int))) = none := by simp [hc]; omega
    rw [this, Option.or_none]
theorem got_set {ps : List Pc} {c : Pc} {k t : Nat} (hc : c.i = k) (hn : ∀ p ∈ ps, p.i ≠ c.i) : (List.range t).map (got (ps ++ [c])) = ((List.range t).map (got ps)).set k (some c.b) := by
  apply List.ext_getElem
  · simp
  intro j h1 h2
  rw [List.getElem_map, List.getElem_range, got_snoc hc hn, List.getElem_set, List.getElem_map, List.getElem_range]
  by_cases h : j = k
  · rw [if_pos h, if_pos h.symm]
  · rw [if_neg h, if_neg (fun e => h e.symm)]
theorem got_some {ps : List Pc} {k : Int} (hk : 0 ≤ k) : (got ps k.toNat).isSome = ps.any fun p => decide (p.i = k) := by
  unfold got
  rw [Option.isSome_map, Int.toNat_of_nonneg hk, Bool.eq_iff_iff, List.find?_isSome, List.any_eq_true]
theorem at1_got {i : Nat} : ∀ {ps : List Pc}, (ps.map (·.i)).Nodup → at1 ps i = (got ps i).getD []
  | [], _ => rfl
  | p :: r, h => by
    rw [List.map_cons, List.nodup_cons] at h
    have ih := at1_got (i := i) h.2
    unfold at1 got at *
    by_cases hp : p.i = (i : Int)
    · rw [List.filter_cons_of_pos (by simpa using hp), List.find?_cons_of_pos (by simpa using hp)]
      have : r.filter (fun p => decide (p.i = (i : Int))) = [] := by
        rw [List.filter_eq_nil_iff]
        intro q hq
        simp only [decide_eq_true_eq]
        intro e
        exact h.1 (List.mem_map.2 ⟨q, hq, by rw [e, hp]⟩)
      rw [this]; simp
    · rw [List.filter_cons_of_neg (by simpa using hp), List.find?_cons_of_neg (by simpa using hp)]
      exact ih
theorem join_got {ps : List Pc} {k : Nat} (h : (ps.map (·.i)).Nodup) : joinD ps k = (((List.range k).map (got ps)).map (·.getD [])).flatten := by
  unfold joinD
  rw [List.map_map]
  congr 1
  exact List.map_congr_left fun i _ => at1_got h
theorem map_find {L : List Ms} {u n : Int} : (L.map abM).findIdx? (fun a => decide (a.u = u ∧ a.n = n)) = fndO u n L := by
  rw [List.findIdx?_map]; rfl
theorem hd_snoc {ps : List Pc} (h : ps ≠ []) (c : Pc) (s s' : Int) : (⟨ps ++ [c], s⟩ : Ms).hd = (⟨ps, s'⟩ : Ms).hd := by
  cases ps with
  | nil => exact absurd rfl h
  | cons a r => rfl
/-- A piece is laid to a message: alike. -/
theorem fin_same {L : List Ms} (hL : ∀ m ∈ L, m.inv) {c : Pc} (hw : c.wf) (hm : c.may = true) (h1 : c.k = 1) {i : Nat} {m : Ms} (hi : i < L.length) (he : L[i] = m) (hu : m.hd.u = c.u ∧ m.hd.n = c.n) (ht : m.hd.t = c.t) (hn : ∀ p ∈ m.ps, p.i ≠ c.i) :
    finA (L.map abM) i (abM m) c = ((finD L (some i) ⟨m.ps ++ [c], m.since⟩).1.map abM, (finD L (some i) ⟨m.ps ++ [c], m.since⟩).2) ∧ ∀ x ∈ (finD L (some i) ⟨m.ps ++ [c], m.since⟩).1, x.inv := by
  have hmi : m.inv := hL m (he ▸ List.getElem_mem hi)
  have hle := Pc.may_le hm
  obtain ⟨ne, un, t8, lt, nd, wf⟩ := hmi
  have hhd : (⟨m.ps ++ [c], m.since⟩ : Ms).hd = m.hd := hd_snoc ne c _ _
  have hpl : 0 ≤ c.i ∧ c.i < c.t := by
    have h2 : c.placed = true := by
      have := hm
      unfold Pc.may at this
      rw [if_pos h1] at this
      simp at this
      exact this.2.1.1
    have := Pc.placed_le h2; omega
  obtain ⟨k, hk⟩ : ∃ k : Nat, c.i = k := ⟨c.i.toNat, by omega⟩
  have hnd : ((m.ps ++ [c]).map (·.i)).Nodup := by
    rw [List.map_append, List.nodup_append]
    refine ⟨nd, by simp, ?_⟩
    intro a ha b hb
    obtain ⟨p, hp, rfl⟩ := List.mem_map.1 ha
    simp at hb
    rw [hb]; exact hn p hp
  have hll : ((m.ps ++ [c]).length : Int) = m.ps.length + 1 := by simp
  have hset := got_set (t := m.hd.t.toNat) hk hn
  have hki : c.i.toNat = k := by omega
  have hab : (abM ⟨m.ps ++ [c], m.since⟩) = { abM m with ps := (abM m).ps.set c.i.toNat (some c.b), left := (abM m).left - 1 } := by
    unfold abM
    rw [hhd]
    dsimp only
    rw [hset, hll, hki]
    congr 1
    omega
  unfold finA finD wholeD
  rw [hhd]
  dsimp only
  rw [hll]
  by_cases hlt : (m.ps.length : Int) + 1 < m.hd.t
  · rw [if_pos hlt, if_pos (by show m.hd.t - m.ps.length - 1 > 0; omega)]
    refine ⟨?_, ?_⟩
    · show _ = ((L.set i _).map abM, _)
      rw [List.map_set, hab]
    · intro x hx
      rcases List.mem_or_eq_of_mem_set (show x ∈ L.set i _ from hx) with hx | rfl
      · exact hL x hx
      · refine ⟨by simp, ?_, by rw [hhd]; exact t8, by rw [hhd]; show ((m.ps ++ [c]).length : Int) < _; omega, hnd, ?_⟩
        · rw [hhd]
          intro p hp
          rcases List.mem_append.1 hp with hp | hp
          · exact un p hp
          · rw [List.mem_singleton.1 hp]
            exact ⟨hu.1.symm, hu.2.symm, ht.symm, hpl.1, by omega⟩
        · intro p hp
          rcases List.mem_append.1 hp with hp | hp
          · exact wf p hp
          · rw [List.mem_singleton.1 hp]
            exact ⟨hw, hle.2.2.2.2.1⟩
  · rw [if_neg hlt, if_neg (by show ¬ m.hd.t - m.ps.length - 1 > 0; omega)]
    refine ⟨?_, ?_⟩
    · show _ = ((L.eraseIdx i).map abM, _)
      rw [map_erase]
      congr 2
      have e1 : m.ps.length + 1 = m.hd.t.toNat := by omega
      rw [join_got hnd, show (m.ps ++ [c]).length = m.hd.t.toNat by rw [← e1]; simp, hset, hki]
      rfl
    · intro x hx
      exact hL x (List.mem_of_mem_eraseIdx hx)
theorem take_same {room now : Int} {L : List Ms} (hL : ∀ m ∈ L, m.inv) {c : Pc} (hw : c.wf) :
    tkA room now c (L.map abM) = ((takeD room now c L).1.map abM, (takeD room now c L).2) ∧ ∀ x ∈ (takeD room now c L).1, x.inv := by
  unfold tkA takeD
  by_cases hok : c.may = true ∧ c.k = 1 ∧ 0 ≤ now ∧ now ≤ 1099511627776
  case neg => rw [if_neg hok, if_neg hok]; exact ⟨rfl, hL⟩
  rw [if_pos hok, if_pos hok, map_find]
  have hle := Pc.may_le hok.1
  have hpl : 0 ≤ c.i ∧ c.i < c.t := by
    have h2 : c.placed = true := by
      have := hok.1
      unfold Pc.may at this
      rw [if_pos hok.2.1] at this
      simp at this
      exact this.2.1.1
    have := Pc.placed_le h2; omega
  cases hf : fndO c.u c.n L with
  | none =>
    dsimp only
    rw [List.length_map]
    by_cases hr : (L.length : Int) ≥ room
    · rw [if_pos hr, if_pos hr]; exact ⟨rfl, hL⟩
    rw [if_neg hr, if_neg hr]
    obtain ⟨k, hk⟩ : ∃ k : Nat, c.i = k := ⟨c.i.toNat, by omega⟩
    have hki : c.i.toNat = k := by omega
    have hset := got_set (ps := []) (t := c.t.toNat) hk (fun p hp => by cases hp)
    have hnil : (List.range c.t.toNat).map (got []) = List.replicate c.t.toNat none :=
      List.eq_replicate_iff.2 ⟨by simp, fun b hb => by obtain ⟨j, _, rfl⟩ := List.mem_map.1 hb; rfl⟩
    have hW : wholeD ⟨[c], now⟩ = if ((1 : Nat) : Int) < c.t then ([], false) else (joinD [c] 1, true) := rfl
    rw [List.nil_append, hnil] at hset
    by_cases hlt : ((1 : Nat) : Int) < c.t
    · rw [if_pos hlt] at hW
      unfold finA finD
      rw [hW, if_pos (by dsimp only; omega)]
      refine ⟨?_, ?_⟩
      · show (List.set (L.map abM ++ _) _ _, _) = ((L ++ [_]).map abM, _)
        rw [List.set_append_right _ _ (by simp), List.map_append]
        simp only [List.length_map, Nat.sub_self, List.set_cons_zero, List.map_cons, List.map_nil]
        rw [hki, ← hset]
        rfl
      · intro x hx
        rcases List.mem_append.1 (show x ∈ L ++ [_] from hx) with hx | hx
        · exact hL x hx
        · rw [List.mem_singleton.1 hx]
          refine ⟨by simp, ?_, hle.2.2.2.1.2, hlt, by simp, ?_⟩
          · intro p hp
            rw [List.mem_singleton.1 hp]
            exact ⟨rfl, rfl, rfl, hpl.1, hpl.2⟩
          · intro p hp
            rw [List.mem_singleton.1 hp]
            exact ⟨hw, hle.2.2.2.2.1⟩
    · rw [if_neg hlt] at hW
      unfold finA finD
      rw [hW, if_neg (by dsimp only; omega)]
      refine ⟨?_, hL⟩
      have e1 : c.t.toNat = 1 := by omega
      show ((L.map abM ++ _).eraseIdx _, _, true, 0) = (L.map abM, joinD [c] 1, true, 0)
      rw [List.eraseIdx_append_of_length_le (by simp)]
      simp only [List.length_map, Nat.sub_self, List.eraseIdx_cons_zero, List.append_nil]
      rw [hki, ← hset, join_got (by simp), e1]
  | some i =>
    have hf' := hf
    unfold fndO at hf'
    rw [List.findIdx?_eq_some_iff_getElem] at hf'
    obtain ⟨hi, hq, -⟩ := hf'
    dsimp only
    rw [List.getElem?_map, List.getElem?_eq_getElem hi]
    obtain ⟨m, hm⟩ : ∃ m, L[i] = m := ⟨_, rfl⟩
    rw [hm] at hq ⊢
    have hq := of_decide_eq_true hq
    have hmi : m.inv := hL m (hm ▸ List.getElem_mem hi)
    have hlen : ((abM m).ps.length : Int) = m.hd.t := by
      show (((List.range m.hd.t.toNat).map (got m.ps)).length : Int) = _
      have := hmi.lt
      rw [List.length_map, List.length_range]; omega
    show (if ((abM m).ps.length : Int) ≠ c.t then _ else _) = _ ∧ _
    rw [hlen]
    by_cases ht : m.hd.t ≠ c.t
    · rw [if_pos ht]; dsimp only; rw [if_pos ht]; exact ⟨rfl, hL⟩
    rw [if_neg ht]
    dsimp only
    rw [if_neg ht]
    have ht : m.hd.t = c.t := by simpa using ht
    have hgot : ((abM m).ps[c.i.toNat]?.getD none).isSome = m.ps.any fun p => decide (p.i = c.i) := by
      show ((((List.range m.hd.t.toNat).map (got m.ps))[c.i.toNat]?).getD none).isSome = _
      rw [List.getElem?_map, List.getElem?_range (by omega)]
      exact got_some hpl.1
    rw [hgot]
    by_cases ha : (m.ps.any fun p => decide (p.i = c.i)) = true
    · rw [if_pos ha, if_pos ha]; exact ⟨rfl, hL⟩
    rw [if_neg ha, if_neg ha]
    refine fin_same hL hw hok.1 hok.2.1 hi hm hq ht fun p hp e => ha ?_
    rw [List.any_eq_true]
    exact ⟨p, hp, decide_eq_true e⟩
theorem exp_same {now : Int} {l : List Mg} {L : List Ms} (h : l.map Mg.ab = L.map abM) : (exM now l).map Mg.ab = (expD now L).map abM := by
  unfold exM expD
  by_cases hn : 0 ≤ now ∧ now ≤ 1099511627776
  · rw [if_pos hn, if_pos hn]
    have e1 : ∀ l : List Mg, (l.filter fun y => !decide (y.since ≤ now - 128)).map Mg.ab = (l.map Mg.ab).filter fun a => !decide (a.since ≤ now - 128) := by
      intro l; rw [List.filter_map]; rfl
    have e2 : ∀ l : List Ms, (l.filter fun y => decide (y.since > now - 128)).map abM = (l.map abM).filter fun a => !decide (a.since ≤ now - 128) := by
      intro l; rw [List.filter_map]; congr 1
      apply List.filter_congr
      intro m _
      show decide (m.since > now - 128) = !decide (m.since ≤ now - 128)
      rw [← decide_not]; exact decide_eq_decide.2 (by omega)
    rw [e1, e2, h]
  · rw [if_neg hn, if_neg hn, h]
theorem exM_good {now : Int} {l : List Mg} (h : goods l) : goods (exM now l) := by
  unfold exM; split
  · exact fun y hy => h y (List.mem_filter.1 hy).1
  · exact h
theorem expD_inv {now : Int} {L : List Ms} (h : ∀ m ∈ L, m.inv) : ∀ m ∈ expD now L, m.inv := by
  unfold expD; split
  · exact fun y hy => h y (List.mem_filter.1 hy).1
  · exact h
theorem expD_le {now : Int} {L : List Ms} : (expD now L).length ≤ L.length := by
  unfold expD; split
  · exact List.length_filter_le _ _
  · exact Nat.le_refl _
end Go.Proofs.Ytiimeklgjoclpaa
