/- Tables of messages: a piece is taken. -/
import Derived.Test.YtiimeklgjoclpaaGn
namespace Go.Proofs.Ytiimeklgjoclpaa
open Go.Sx
set_option maxRecDepth 100000
set_option pp.deepTerms false
set_option pp.maxSteps 300
set_option linter.unusedSimpArgs false
set_option linter.unusedVariables false

/-- A message laid open: its block, its row of parts, the parts. -/
abbrev opn (y : Mg) : List HProp := [Cel.p y.cel, Own y.a.1 y.a.2 23 1 (y.ss.map Sl.v), all (y.ss.map slP)]
theorem seps_opn {y : Mg} {F : List HProp} {g : Hp} : seps (MgP y :: F) g ↔ seps (opn y ++ F) g := seps_all
theorem seps_nth {l : List HProp} {i : Nat} (h : i < l.length) {g : Hp} : seps l g ↔ seps (l[i] :: l.eraseIdx i) g := by
  have p : l.Perm (l[i] :: l.eraseIdx i) := by
    induction l generalizing i with
    | nil => exact absurd h (by simp)
    | cons x r ih =>
      cases i with
      | zero => exact .refl _
      | succ i =>
        have h' : i < r.length := by simpa using h
        exact ((ih h').cons x).trans (.swap _ _ _)
  exact ⟨seps_perm p, seps_perm p.symm⟩
theorem range_pick {α : Type} : ∀ (l : List α), (List.range l.length).filterMap (fun i => l[i]?) = l
  | [] => rfl
  | x :: r => by
    have h := range_pick r
    simp [List.range_succ_eq_map, List.filterMap_map, Function.comp_def, h]
/-- Parts in another order. -/
theorem seps_pick {l : List HProp} (idx : List Nat) (h : decide ((List.range l.length).Perm idx) = true) {g : Hp} (s : seps l g) : seps (idx.filterMap (fun i => l[i]?)) g := by
  have p := (of_decide_eq_true h).filterMap (fun i => l[i]?)
  rw [range_pick] at p
  exact seps_perm p s
theorem map_erase {α β : Type} {f : α → β} : ∀ (l : List α) (i : Nat), (l.map f).eraseIdx i = (l.eraseIdx i).map f
  | [], _ => rfl
  | _ :: _, 0 => rfl
  | x :: r, i + 1 => by simp only [List.map_cons, List.eraseIdx_cons_succ]; rw [map_erase r i]
/-- A message of a table, laid open; the others. -/
theorem mgs_open {l : List Mg} {i : Nat} (h : i < l.length) {F : List HProp} {g : Hp} : seps (all (l.map MgP) :: F) g ↔ seps (opn l[i] ++ (all ((l.eraseIdx i).map MgP) :: F)) g := by
  have hl : i < (l.map MgP).length := by simpa using h
  have e1 : (l.map MgP)[i] = MgP l[i] := by simp
  have e2 : (l.map MgP).eraseIdx i = (l.eraseIdx i).map MgP := map_erase l i
  have key : seps (all (l.map MgP) :: F) g ↔ seps (MgP l[i] :: all ((l.eraseIdx i).map MgP) :: F) g := by
    constructor
    · rintro ⟨a, b, d, ha, hb, hp, hs⟩
      obtain ⟨a1, a2, d2, h1, h2, h3, h4⟩ := (seps_nth hl).1 hp
      rw [e1] at h3
      rw [e2] at h4
      have : seps (all [MgP l[i], all ((l.eraseIdx i).map MgP)] :: F) g := ⟨a, b, d, ha, hb, ⟨a1, a2, d2, h1, h2, h3, a2, ⟨fun _ => none, a2.io⟩, ⟨fun _ => .inr rfl⟩, .refl _, ⟨fun _ _ e => by simp at e, rfl⟩, h4, trivial⟩, hs⟩
      exact seps_all.1 this
    · intro s
      have s1 : seps (all [MgP l[i], all ((l.eraseIdx i).map MgP)] :: F) g := seps_all.2 s
      obtain ⟨a, b, d, ha, hb, hp, hs⟩ := s1
      obtain ⟨a1, a2, d2, h1, h2, h3, h4⟩ := hp
      have h5 := seps_one _ h4
      refine ⟨a, b, d, ha, hb, (seps_nth hl).2 ?_, hs⟩
      rw [e1, e2]
      exact ⟨a1, a2, d2, h1, h2, h3, h5⟩
  rw [key, seps_opn]
theorem sl_nil (x : AC) : ∀ (T : Nat) {F : List HProp} {g : Hp}, seps F g → seps (all ((List.replicate T (⟨none, x⟩ : Sl)).map slP) :: F) g
  | 0, _, _, s => seps_all0 s
  | T + 1, F, g, s => by
    have s1 := sl_nil x T s
    refine seps_all.2 ?_
    simp only [List.replicate_succ, List.map_cons, List.cons_append]
    exact seps_all0 (seps_all.1 s1)
theorem sl_set {s : Sl} : ∀ {ss : List Sl} {i : Nat} (h : i < ss.length), ss[i].b = none → ∀ {F : List HProp} {g : Hp}, seps (slP s :: all (ss.map slP) :: F) g → seps (all ((ss.set i s).map slP) :: F) g
  | [], _, h, _, _, _, _ => absurd h (by simp)
  | x :: r, 0, _, hn, F, g, st => by
    have s1 : seps ((x :: r).map slP ++ (slP s :: F)) g := seps_all.1 (seps_perm (List.Perm.swap _ _ _) st)
    have s2 : seps (r.map slP ++ (slP s :: F)) g := seps_tail s1
    exact seps_all.2 (seps_front.1 s2)
  | x :: r, i + 1, h, hn, F, g, st => by
    have s1 : seps ((x :: r).map slP ++ (slP s :: F)) g := seps_all.1 (seps_perm (List.Perm.swap _ _ _) st)
    obtain ⟨a, b, d, ha, hb, hp, hs⟩ := s1
    have s2 : seps (slP s :: all (r.map slP) :: F) b := seps_perm (List.Perm.swap _ _ _) (seps_all.2 hs)
    have s3 := seps_all.1 (sl_set (ss := r) (i := i) (by simpa using h) (by simpa using hn) s2)
    refine seps_all.2 ?_
    exact ⟨a, b, d, ha, hb, hp, s3⟩
theorem mgs_snoc {l : List Mg} {y : Mg} {F : List HProp} {g : Hp} (s : seps (MgP y :: all (l.map MgP) :: F) g) : seps (all ((l ++ [y]).map MgP) :: F) g := by
  rw [List.map_append]
  refine seps_all.2 ?_
  have s1 : seps (l.map MgP ++ (MgP y :: F)) g := seps_all.1 (seps_perm (List.Perm.swap _ _ _) s)
  rw [List.append_assoc]; exact s1
theorem sfind_n (A : HProp) (g : Nat) (room : Int) (u n : Int) (hn : NmOk u n) (l : List Mg) (hl : okMs l) (hs : l.length ≤ 1000000) (a : AC) (h : l.findIdx? (nameQ u n) = none) :
    Con Try.prog 45 [.c (.rp g 0), .agg (nmg u n)] [tc g room l a] (tr l a) A (fun _ : Unit => True) (fun _ => .c (.raw (.pointer none))) (fun _ => [tc g room l a]) (fun _ => tr l a) := by
  have := sfind_c A g room u n hn l hl hs a
  have e2 : fndM u n l = .c (.raw (.pointer none)) := by
    unfold fndM
    have : l.find? (nameQ u n) = none := by rw [List.find?_eq_none]; rw [List.findIdx?_eq_none_iff] at h; intro y hy; simp [h y hy]
    rw [this]
  rwa [e2] at this
theorem sfind_s (A : HProp) (g : Nat) (room : Int) (u n : Int) (hn : NmOk u n) (l : List Mg) (hl : okMs l) (hs : l.length ≤ 1000000) (a : AC) (i : Nat) (hi : i < l.length) (h : l.findIdx? (nameQ u n) = some i) :
    Con Try.prog 45 [.c (.rp g 0), .agg (nmg u n)] [tc g room l a] (tr l a) A (fun _ : Unit => True) (fun _ => .c (.rp l[i].h 0)) (fun _ => [tc g room l a])
      (fun _ => Own a.1 a.2 97 1 (rowM l) :: (opn l[i] ++ [all ((l.eraseIdx i).map MgP)])) := by
  have C := sfind_c A g room u n hn l hl hs a
  have e2 : fndM u n l = .c (.rp l[i].h 0) := by
    unfold fndM
    rw [List.findIdx?_eq_some_iff_getElem] at h
    obtain ⟨hi', hq, hb⟩ := h
    have : l.find? (nameQ u n) = some l[i] := by
      rw [List.find?_eq_some_iff_getElem]
      exact ⟨hq, i, hi, rfl, fun j hj => by simpa using hb j hj⟩
    rw [this]
  rw [e2] at C
  refine ⟨C.runs, fun w hw => (C.h w hw).mono ?_⟩
  rintro e w' ⟨t, ht, he, kv, kq, s⟩
  refine ⟨t, ht, he, kv, kq, ?_⟩
  obtain ⟨g1, k1, d1, h1, h2, h3, h4⟩ := s
  refine ⟨g1, k1, d1, h1, h2, h3, ?_⟩
  obtain ⟨g2, k2, d2, h5, h6, h7, h8⟩ := h4
  refine ⟨g2, k2, d2, h5, h6, h7, ?_⟩
  have := (mgs_open hi).1 h8
  simpa using this
end Go.Proofs.Ytiimeklgjoclpaa
