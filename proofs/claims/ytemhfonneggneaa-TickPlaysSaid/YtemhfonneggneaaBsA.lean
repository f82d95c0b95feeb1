/- A board told in lists: values, alarms. No program is in sight here. -/
import Derived.Test.YtemhfonneggneaaBdO
import Derived.Test.YtemhfonneggneaaBdR
import Derived.Test.YtemhfonneggneaaRbF
namespace Go.Proofs.Ytemhfonneggneaa.BS
open Go.RowKit Go.Fr Go.Tb Go.Proofs.Ytemhfonneggneaa.CK Go.Proofs.Ytemhfonneggneaa.BD Go.Proofs.Ytemhfonneggneaa.RB

def z0 : Bool × Nat × Nat := (false, 0, 0)
def ctr (T : Tb) (c : Nat) : Int × Int × Int := T.counters.getD c (0, 0, 0)
/-- counter c's clock -/
def mkS (T : Tb) (V : List Nat) (A : List (Bool × Nat × Nat)) (c : Nat) : Cs := ⟨(ctr T c).1.toNat, (ctr T c).2.2.toNat, V.getD c 0, (alsOf T.alarms c).map (fun a => A.getD a.toNat z0)⟩
def mkC (T : Tb) (V : List Nat) (A : List (Bool × Nat × Nat)) : List Cs := (List.range T.counters.length).map (mkS T V A)
theorem mkC_len (T : Tb) (V : List Nat) (A : List (Bool × Nat × Nat)) : (mkC T V A).length = T.counters.length := by simp [mkC]
theorem mkC_at {T : Tb} {V : List Nat} {A : List (Bool × Nat × Nat)} {c : Nat} (hc : c < T.counters.length) : (mkC T V A)[c]? = some (mkS T V A c) := by simp [mkC, hc]
/-- the alarm's place in its clock -/
def plc (T : Tb) (i c : Nat) : Nat := (alsOf (T.alarms.take i) c).length
theorem als_at {T : Tb} {i c : Nat} {x : AlarmR} (hx : T.alarms[i]? = some x) (hxc : x.counter = (c : Int)) : (alsOf T.alarms c)[plc T i c]? = some (i : Int) := by
  have := alsOf_place hx
  rw [hxc] at this
  exact this
theorem mkS_at {T : Tb} {V : List Nat} {A : List (Bool × Nat × Nat)} {i c : Nat} {x : AlarmR} {a : Bool × Nat × Nat} (hx : T.alarms[i]? = some x) (hxc : x.counter = (c : Int)) (ha : A[i]? = some a) : (mkS T V A c).l[plc T i c]? = some a := by
  show ((alsOf T.alarms c).map _)[plc T i c]? = some a
  rw [List.getElem?_map, als_at hx hxc]
  simp [List.getD_eq_getElem?_getD, ha]
theorem getD_set_self {α : Type} {l : List α} {i : Nat} (h : i < l.length) (a d : α) : (l.set i a).getD i d = a := by
  simp [List.getD_eq_getElem?_getD, h]
theorem getD_set_other {α : Type} {l : List α} {i j : Nat} (h : i ≠ j) (a d : α) : (l.set i a).getD j d = l.getD j d := by
  simp [List.getD_eq_getElem?_getD, h]
theorem mkS_set {T : Tb} {V : List Nat} {A : List (Bool × Nat × Nat)} {i c : Nat} {x : AlarmR} (hx : T.alarms[i]? = some x) (hxc : x.counter = (c : Int)) (hi : i < A.length) (a : Bool × Nat × Nat) :
    mkS T V (A.set i a) c = ⟨(mkS T V A c).mx, (mkS T V A c).mn, (mkS T V A c).x, (mkS T V A c).l.set (plc T i c) a⟩ := by
  unfold mkS
  congr 1
  apply List.ext_getElem?
  intro p
  rw [List.getElem?_set, List.getElem?_map]
  by_cases hp : plc T i c = p
  · subst hp
    rw [if_pos rfl, als_at hx hxc]
    have hl : plc T i c < (alsOf T.alarms c).length := (List.getElem?_eq_some_iff.1 (als_at hx hxc)).1
    rw [if_pos (by simpa using hl)]
    simp [List.getD_eq_getElem?_getD, hi]
  · rw [if_neg hp, List.getElem?_map]
    cases hq : (alsOf T.alarms c)[p]? with
    | none => rfl
    | some q =>
      obtain ⟨j, y, rfl, hy, hyc, hpj⟩ := alsOf_spec hq
      simp only [Option.map_some, Int.toNat_natCast]
      rw [getD_set_other]
      rintro rfl
      exact hp hpj.symm
theorem mkS_other {T : Tb} {V : List Nat} {A : List (Bool × Nat × Nat)} {i c d : Nat} {x : AlarmR} (hx : T.alarms[i]? = some x) (hxc : x.counter = (c : Int)) (hd : d ≠ c) (a : Bool × Nat × Nat) : mkS T V (A.set i a) d = mkS T V A d := by
  unfold mkS
  congr 1
  apply List.map_congr_left
  intro q hq
  obtain ⟨p, hp⟩ := List.mem_iff_getElem?.1 hq
  obtain ⟨j, y, rfl, hy, hyc, _⟩ := alsOf_spec hp
  rw [Int.toNat_natCast, getD_set_other]
  rintro rfl
  rw [hx] at hy
  cases hy
  omega
/-- an alarm is turned -/
theorem mkC_set {T : Tb} {V : List Nat} {A : List (Bool × Nat × Nat)} {i c : Nat} {x : AlarmR} (hx : T.alarms[i]? = some x) (hxc : x.counter = (c : Int)) (hi : i < A.length) (a : Bool × Nat × Nat) :
    mkC T V (A.set i a) = (mkC T V A).set c ⟨(mkS T V A c).mx, (mkS T V A c).mn, (mkS T V A c).x, (mkS T V A c).l.set (plc T i c) a⟩ := by
  apply List.ext_getElem?
  intro d
  rw [List.getElem?_set]
  by_cases hd : c = d
  · subst hd
    rw [if_pos rfl, mkC_len]
    by_cases hc : c < T.counters.length
    · rw [if_pos hc, mkC_at hc, mkS_set hx hxc hi]
    · rw [if_neg hc, List.getElem?_eq_none (by rw [mkC_len]; omega)]
  · rw [if_neg hd]
    by_cases hc : d < T.counters.length
    · rw [mkC_at hc, mkC_at hc, mkS_other hx hxc (fun e => hd e.symm)]
    · rw [List.getElem?_eq_none (by rw [mkC_len]; omega), List.getElem?_eq_none (by rw [mkC_len]; omega)]

theorem tkA_getD {T : Tb} {c : Nat} {A : List (Bool × Nat × Nat)} {j : Nat} (hj : j < A.length) : (tkA T c A A.length).getD j z0 = if onC T c j then tick1 (A.getD j z0) else A.getD j z0 := by
  obtain ⟨a, ha⟩ : ∃ a, A[j]? = some a := ⟨_, List.getElem?_eq_getElem hj⟩
  simp only [List.getD_eq_getElem?_getD, tkA, List.getElem?_mapIdx, ha, Option.map_some, Option.getD_some]
  simp [hj]
theorem onC_of {T : Tb} {i c d : Nat} {x : AlarmR} (hx : T.alarms[i]? = some x) (hxc : x.counter = (c : Int)) : onC T d i = decide (c = d) := by
  unfold onC
  rw [hx, Bool.eq_iff_iff]
  simp [hxc]
  omega
/-- a counter's tick -/
theorem mkC_tick {T : Tb} {V : List Nat} {A : List (Bool × Nat × Nat)} {c : Nat} (hA : A.length = T.alarms.length) (hcv : c < V.length) (x' : Nat) :
    mkC T (V.set c x') (tkA T c A A.length) = (mkC T V A).set c ⟨(mkS T V A c).mx, (mkS T V A c).mn, x', (mkS T V A c).l.map tick1⟩ := by
  have hl : ∀ d : Nat, (alsOf T.alarms d).map (fun a => (tkA T c A A.length).getD a.toNat z0) = if c = d then ((alsOf T.alarms d).map (fun a => A.getD a.toNat z0)).map tick1 else (alsOf T.alarms d).map (fun a => A.getD a.toNat z0) := by
    intro d
    have key : ∀ q ∈ alsOf T.alarms (d : Int), (tkA T c A A.length).getD q.toNat z0 = if c = d then tick1 (A.getD q.toNat z0) else A.getD q.toNat z0 := by
      intro q hq
      obtain ⟨p, hp⟩ := List.mem_iff_getElem?.1 hq
      obtain ⟨j, y, rfl, hy, hyc, _⟩ := alsOf_spec hp
      have hj := (List.getElem?_eq_some_iff.1 hy).1
      rw [Int.toNat_natCast, tkA_getD (by omega), onC_of hy hyc]
      by_cases h : d = c
      · subst h; simp
      · rw [decide_eq_false h, if_neg Bool.false_ne_true, if_neg (fun e => h e.symm)]
    rw [List.map_congr_left key]
    split
    · rw [List.map_map]; rfl
    · rfl
  apply List.ext_getElem?
  intro d
  rw [List.getElem?_set]
  by_cases hd : c = d
  · subst hd
    rw [if_pos rfl, mkC_len]
    by_cases hc : c < T.counters.length
    · rw [if_pos hc, mkC_at hc]
      unfold mkS
      rw [hl c, if_pos rfl, getD_set_self hcv]
    · rw [if_neg hc, List.getElem?_eq_none (by rw [mkC_len]; omega)]
  · rw [if_neg hd]
    by_cases hc : d < T.counters.length
    · rw [mkC_at hc, mkC_at hc]
      unfold mkS
      rw [hl d, if_neg hd, getD_set_other hd]
    · rw [List.getElem?_eq_none (by rw [mkC_len]; omega), List.getElem?_eq_none (by rw [mkC_len]; omega)]
/-- those that expire, told by their numbers -/
theorem fired_map {f : Int → Bool × Nat × Nat} : ∀ (L pre : List Int), (fired (L.map f) pre.length).map (fun p => ((pre ++ L)[p.toNat]?).getD 0) = L.filter (fun a => fires (f a))
  | [], pre => by simp [fired]
  | a :: L, pre => by
    have ih := fired_map (f := f) L (pre ++ [a])
    rw [List.length_append, List.append_assoc] at ih
    rw [List.map_cons, fired, List.map_append, List.filter_cons]
    have h1 : (fired (L.map f) (pre.length + 1)).map (fun p => ((pre ++ a :: L)[p.toNat]?).getD 0) = L.filter (fun a => fires (f a)) := ih
    rw [h1]
    cases fires (f a)
    · simp
    · simp
theorem told_fire {T : Tb} {V : List Nat} {A : List (Bool × Nat × Nat)} {c : Nat} (hA : A.length = T.alarms.length) : told T c (fired (mkS T V A c).l 0) = fireA T c A A.length := by
  have h := fired_map (f := fun a => A.getD a.toNat z0) (alsOf T.alarms c) []
  simp only [List.nil_append, List.length_nil] at h
  unfold told
  show (fired ((alsOf T.alarms c).map _) 0).map _ = _
  rw [h]
  unfold fireA alsOf
  rw [List.filter_map, List.filter_filter, hA]
  congr 1
  apply List.filter_congr
  intro j hj
  have hjl : j < A.length := by rw [hA]; exact List.mem_range.1 hj
  obtain ⟨a, ha⟩ : ∃ a, A[j]? = some a := ⟨_, List.getElem?_eq_getElem hjl⟩
  simp only [Function.comp, Int.toNat_natCast, List.getD_eq_getElem?_getD, ha, Option.getD_some, Option.map_some, onC]
  cases hf : fires a <;> simp
end Go.Proofs.Ytemhfonneggneaa.BS
