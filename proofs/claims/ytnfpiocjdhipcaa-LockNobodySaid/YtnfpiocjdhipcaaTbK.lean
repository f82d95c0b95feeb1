/- Package table: room, the plain part: counts and the most of them. No program is in sight here. -/
import Derived.Test.YtnfpiocjdhipcaaTab
import Derived.Test.YtnfpiocjdhipcaaTri
namespace Go.Tb
open Go.RowKit Go.Fr

/-- how often each number below n stands in a list -/
def cnts (l : List Int) (n : Nat) : List Int := (List.range n).map (fun c : Nat => (l.count (c : Int) : Int))
theorem cnts_len (l : List Int) (n : Nat) : (cnts l n).length = n := by simp [cnts]
theorem cnts_nil (n : Nat) : cnts [] n = List.replicate n 0 := by
  apply List.ext_getElem
  · simp [cnts]
  · intro i h1 h2; simp [cnts]
theorem cnts_at (l : List Int) {n c : Nat} (h : c < n) : (cnts l n)[c]? = some (l.count (c : Int) : Int) := by simp [cnts, h]
theorem count_snoc (l : List Int) (a b : Int) : (l ++ [a]).count b = l.count b + (if a = b then 1 else 0) := by
  rw [List.count_append, List.count_singleton]
  by_cases h : a = b <;> simp [h]
theorem cnts_snoc (l : List Int) {n c : Nat} (h : c < n) : cnts (l ++ [(c : Int)]) n = (cnts l n).set c ((l.count (c : Int) : Int) + 1) := by
  apply List.ext_getElem
  · simp [cnts]
  · intro i h1 h2
    rw [List.getElem_set]
    simp only [cnts, List.getElem_map, List.getElem_range]
    rw [count_snoc]
    by_cases hi : c = i
    · subst hi; simp
    · have : ¬ ((c : Int) = (i : Int)) := by omega
      simp [this, hi]

/-- m is the greatest count of either list, and two at least -/
structure Mx (m : Int) (A B : List Int) : Prop where
  two : 2 ≤ m
  a : ∀ c, (A.count c : Int) ≤ m
  b : ∀ c, (B.count c : Int) ≤ m
  is : m = 2 ∨ (∃ c, (A.count c : Int) = m) ∨ ∃ c, (B.count c : Int) = m
theorem Mx.start : Mx 2 [] [] := ⟨by omega, fun c => by simp, fun c => by simp, Or.inl rfl⟩
theorem mxi_le (m v : Int) : m ≤ mxi m v ∧ v ≤ mxi m v ∧ (mxi m v = m ∨ mxi m v = v) := by unfold mxi; split <;> omega
theorem count_last (l : List Int) (a : Int) : ((l ++ [a]).count a : Int) = (l.count a : Int) + 1 := by rw [count_snoc]; simp
theorem count_mono (l : List Int) (a c : Int) : (l.count c : Int) ≤ ((l ++ [a]).count c : Int) := by rw [count_snoc]; split <;> omega
theorem Mx.left {m : Int} {A B : List Int} (h : Mx m A B) (a : Int) : Mx (mxi m ((A.count a : Int) + 1)) (A ++ [a]) B := by
  obtain ⟨h1, h2, h3⟩ := mxi_le m ((A.count a : Int) + 1)
  refine ⟨by have := h.two; omega, fun c => ?_, fun c => by have := h.b c; omega, ?_⟩
  · rw [count_snoc]
    by_cases hc : a = c
    · subst hc; simp; omega
    · simp [hc]; have := h.a c; omega
  · rcases h3 with h4 | h4
    · rcases h.is with h5 | ⟨c, h5⟩ | h5
      · exact Or.inl (by omega)
      · refine Or.inr (Or.inl ⟨c, ?_⟩)
        have h6 := count_mono A a c
        have h7 : ((A ++ [a]).count c : Int) ≤ mxi m ((A.count a : Int) + 1) := by
          rw [count_snoc]
          by_cases hc : a = c
          · subst hc; simp; omega
          · simp [hc]; have := h.a c; omega
        omega
      · obtain ⟨c, h5⟩ := h5; exact Or.inr (Or.inr ⟨c, by omega⟩)
    · exact Or.inr (Or.inl ⟨a, by rw [count_last]; omega⟩)
theorem Mx.swap {m : Int} {A B : List Int} (h : Mx m A B) : Mx m B A := ⟨h.two, h.b, h.a, h.is.imp id (fun h => h.symm)⟩
theorem Mx.right {m : Int} {A B : List Int} (h : Mx m A B) (b : Int) : Mx (mxi m ((B.count b : Int) + 1)) A (B ++ [b]) := (h.swap.left b).swap
theorem Mx.uniq {m n : Int} {A B : List Int} (h : Mx m A B) (k : Mx n A B) : m = n := by
  have key : ∀ {m n : Int}, Mx m A B → Mx n A B → m ≤ n := by
    intro m n h k
    rcases h.is with h5 | ⟨c, h5⟩ | ⟨c, h5⟩
    · have := k.two; omega
    · have := k.a c; omega
    · have := k.b c; omega
  have h1 := key h k
  have h2 := key k h
  omega
theorem Mx.le {m : Int} {A B : List Int} (h : Mx m A B) : m ≤ 2 + A.length + B.length := by
  rcases h.is with h5 | ⟨c, h5⟩ | ⟨c, h5⟩
  · omega
  · have := List.count_le_length (a := c) (l := A); omega
  · have := List.count_le_length (a := c) (l := B); omega

/-- the counters of the alarms; the messages that others are received from; how many call back -/
def ctrs (l : List AlarmR) : List Int := l.map (·.counter)
def srcs (l : List MsgR) : List Int := (l.filter (fun x => x.kind != 1)).map (·.src)
def backsA (l : List AlarmR) : Int := (l.countP (fun x => x.kind == 3) : Nat)
def backsM (l : List MsgR) : Int := (l.countP (fun x => x.akind == 3) : Nat)
theorem ctrs_snoc {l : List AlarmR} {k : Nat} {x : AlarmR} (h : l[k]? = some x) : ctrs (l.take (k + 1)) = ctrs (l.take k) ++ [x.counter] := by
  rw [List.take_add_one, h]; simp [ctrs]
theorem backsA_snoc {l : List AlarmR} {k : Nat} {x : AlarmR} (h : l[k]? = some x) : backsA (l.take (k + 1)) = backsA (l.take k) + (if x.kind = 3 then 1 else 0) := by
  rw [List.take_add_one, h]
  simp only [backsA, Option.toList_some, List.countP_append, List.countP_singleton]
  by_cases h3 : x.kind = 3 <;> simp [h3]
theorem srcs_snoc {l : List MsgR} {k : Nat} {x : MsgR} (h : l[k]? = some x) (h1 : x.kind ≠ 1) : srcs (l.take (k + 1)) = srcs (l.take k) ++ [x.src] := by
  rw [List.take_add_one, h]; simp [srcs, List.filter_append, h1]
theorem srcs_skip {l : List MsgR} {k : Nat} {x : MsgR} (h : l[k]? = some x) (h1 : x.kind = 1) : srcs (l.take (k + 1)) = srcs (l.take k) := by
  rw [List.take_add_one, h]; simp [srcs, List.filter_append, h1]
theorem backsM_snoc {l : List MsgR} {k : Nat} {x : MsgR} (h : l[k]? = some x) : backsM (l.take (k + 1)) = backsM (l.take k) + (if x.akind = 3 then 1 else 0) := by
  rw [List.take_add_one, h]
  simp only [backsM, Option.toList_some, List.countP_append, List.countP_singleton]
  by_cases h3 : x.akind = 3 <;> simp [h3]
theorem backsA_le (l : List AlarmR) : 0 ≤ backsA l ∧ backsA l ≤ l.length := by
  unfold backsA; have := List.countP_le_length (p := fun x : AlarmR => x.kind == 3) (l := l); omega
theorem backsM_le (l : List MsgR) : 0 ≤ backsM l ∧ backsM l ≤ l.length := by
  unfold backsM; have := List.countP_le_length (p := fun x : MsgR => x.akind == 3) (l := l); omega
theorem ctrs_len (l : List AlarmR) : (ctrs l).length = l.length := by simp [ctrs]
theorem srcs_len (l : List MsgR) : (srcs l).length ≤ l.length := by
  unfold srcs; rw [List.length_map]; exact List.length_filter_le _ _
end Go.Tb
