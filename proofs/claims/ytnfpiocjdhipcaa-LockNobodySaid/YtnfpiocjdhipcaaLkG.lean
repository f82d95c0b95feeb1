/- stack.Stack[int].All, of a stack or of none. -/
import Derived.Test.YtnfpiocjdhipcaaLka
namespace Go.Proofs.Ytnfpiocjdhipcaa.SI
open Go.RowKit Go.Fr Go.Shelf
attribute [local go_sem] Oper.semAt_some

theorem alive_nil (w : World) : Calls Try.prog 67 #[.pointer none] w fun e w' => e = .returned (.bool false) ∧ w = w' := by
  go_enter Try.func67, Try.ntmps67
  go_wp2
  go_ret
  exact ⟨rfl, rfl⟩
theorem top_nil (w : World) : Calls Try.prog 28 #[.pointer none] w fun e w' => e = .returned (.tuple #[.int .i64 0, .bool false]) ∧ w = w' := by
  have ha := alive_nil w
  go_enter Try.func28, Try.ntmps28
  go_wp2_with (go_at_call 67; refine ha.mono ?_; rintro e w' ⟨rfl, rfl⟩)
  go_ret2
  exact ⟨rfl, rfl⟩
/-- what a pointer to a stack, or none, holds -/
def Holds (w : World) (pv : Option Addr) (l : List Int) : Prop := (∃ b v d h, pv = some ⟨b, 0, none⟩ ∧ IsStk w b v d h l) ∨ (pv = none ∧ l = [])
theorem Holds.below {w W : World} {pv : Option Addr} {l : List Int} (h : Holds w pv l) (hW : Below w.heap.size w W) : Holds W pv l := by
  rcases h with ⟨b, v, d, h, rfl, hs⟩ | h
  · exact Or.inl ⟨b, v, d, h, rfl, hs.below hW⟩
  · exact Or.inr h
theorem Holds.same {w W : World} {pv : Option Addr} {l : List Int} (h : Holds w pv l) (k : Kept (fun _ => False) w W) : Holds W pv l := h.below (k.below (Nat.le_refl _) (fun _ x => x.elim))
theorem Holds.len {w : World} {pv : Option Addr} {l : List Int} (h : Holds w pv l) : l.length ≤ 2147483647 := by
  rcases h with ⟨b, v, d, h, rfl, hs⟩ | ⟨_, rfl⟩
  · exact hs.2.2.2
  · exact Nat.zero_le _
theorem all_any (pv : Option Addr) (w : World) : Calls Try.prog 32 #[.pointer pv] w fun e w' =>
    e = .returned (.func (.func 68) #[] #[.pointer (some ⟨w.heap.size, 0, none⟩)]) ∧ w' = w.alloc (.cells #[.pointer pv] 84) := by
  have hmf : ∀ (fn : Fn) (first cap : Array Value) (w : World), (Instr.makeFunc fn first cap).run Try.prog w = .ok (.func fn first cap) w := fun _ _ _ _ => rfl
  go_enter Try.func32, Try.ntmps32
  go_wp2
  go_ret
  exact ⟨rfl, rfl⟩
set_option maxRecDepth 100000 in
theorem all1_nil (n l Bn : Nat) (J Jx : List Int → World → Prop) (hn : 1 ≤ n) (W : World) (hJ : J [] W) (hBn : W.cell? ⟨Bn, 0, none⟩ = some (.pointer none)) :
    CallsIn Fence.wide n Try.prog 68 #[.func (.yield l) #[] #[], .pointer (some ⟨Bn, 0, none⟩)] W fun e W' => (∃ v, e = .returned v) ∧
      ((∃ ys, ys = [] ∧ J ys W') ∨ (∃ pre, pre <+: [] ∧ Jx pre W')) := by
  refine callsIn_of_wp Try.func68 rfl trivial ?_ rfl
  simp only [Try.ntmps68, List.size_toArray, List.length_cons, List.length_nil, Nat.reduceAdd, Nat.reduceSub, Array.replicate_succ, Array.replicate_zero, List.push_toArray, List.append_toArray, List.nil_append, List.cons_append]
  gi_wp2_with (refine ⟨trivial, ?_⟩; gi_at_call 67; refine (callsIn_wide.2 (alive_nil W)).mono ?_; rintro e w' ⟨rfl, rfl⟩)
  refine bodyPost_ret (results_none rfl _ _ _) rfl ?_
  exact ⟨⟨_, rfl⟩, .inl ⟨[], rfl, hJ⟩⟩
theorem all_stops_any (n Bn : Nat) (pv : Option Addr) (xs : List Int) (ft : World → Nat → Prop) (w : World) (hn : 1 ≤ n) (hft : ∀ W', Below w.heap.size w W' → ∀ k, ft W' k → k < w.heap.size)
    (hB : Bn < w.heap.size) (hBn : w.cell? ⟨Bn, 0, none⟩ = some (.pointer pv)) (hs : Holds w pv xs) :
    SeqStopsK Fence.wide n Try.prog 68 #[.pointer (some ⟨Bn, 0, none⟩)] (fun x : Int => #[Value.int .i64 x]) (Keeps ft) (fun ys => ys = xs.reverse) (fun pre => pre <+: xs.reverse) xs.length w := by
  rcases hs with ⟨b, v, d, h, rfl, hs⟩ | ⟨rfl, rfl⟩
  · exact all_stops n Bn b v d h xs ft w hn hft hB hBn hs
  · intro l J Jx W hW hJ _ hY h0
    exact all1_nil n l Bn J Jx hn W h0 ((hW.cell (p := ⟨Bn, 0, none⟩) hB).trans hBn)
/-- each round's thing is one of the stack's -/
theorem all_stops_mem (n Bn : Nat) (pv : Option Addr) (xs : List Int) (ft : World → Nat → Prop) (w : World) (hn : 1 ≤ n) (hft : ∀ W', Below w.heap.size w W' → ∀ k, ft W' k → k < w.heap.size)
    (hB : Bn < w.heap.size) (hBn : w.cell? ⟨Bn, 0, none⟩ = some (.pointer pv)) (hs : Holds w pv xs) :
    SeqStopsK Fence.wide n Try.prog 68 #[.pointer (some ⟨Bn, 0, none⟩)] (fun x : {x : Int // x ∈ xs} => #[Value.int .i64 x.1]) (Keeps ft) (fun ys => ys.map Subtype.val = xs.reverse) (fun pre => pre.map Subtype.val <+: xs.reverse) xs.length w := by
  intro l J Jx W hW hJ hJx hY h0
  rcases hs with ⟨b, v, d, h, rfl, hs⟩ | ⟨rfl, rfl⟩
  · refine (all1_in n l Bn b v d h xs ft (fun pre W => ∃ q : List {x : Int // x ∈ xs}, q.map Subtype.val = pre ∧ J q W) (fun pre W => ∃ q : List {x : Int // x ∈ xs}, q.map Subtype.val = pre ∧ Jx q W) hn ?_ W (fun W' hW' k hk => by have := hft W' (hW.trans (hW'.mono hW.size)) k hk; have := hW.size; omega)
      (fun W' hk => ⟨[], rfl, hJ _ _ _ _ h0 (grownBy_of_kept hk) (fun r e => by cases e)⟩) ((hW.cell (p := ⟨Bn, 0, none⟩) hB).trans hBn) (hs.below hW)).mono ?_
    · rintro pre x W' ⟨q, rfl, hq⟩ hl hx
      refine (hY q ⟨x, hx⟩ W' hq (by simpa using hl)).mono ?_
      rintro e W2 (⟨rfl, h1, h2⟩ | ⟨rfl, h1⟩)
      · exact Or.inl ⟨rfl, ⟨q ++ [⟨x, hx⟩], by simp, h1⟩, h2⟩
      · exact Or.inr ⟨rfl, ⟨q ++ [⟨x, hx⟩], by simp, h1⟩⟩
    · rintro e W' ⟨hv, ⟨ys, rfl, q, hq, hj⟩ | ⟨pre, hp, q, rfl, hj⟩⟩
      · exact ⟨hv, Or.inl ⟨q, hq, hj⟩⟩
      · exact ⟨hv, Or.inr ⟨q, hp, hj⟩⟩
  · refine (all1_nil n l Bn (fun pre W => pre = [] ∧ J [] W) (fun _ _ => False) hn W ⟨rfl, h0⟩ ((hW.cell (p := ⟨Bn, 0, none⟩) hB).trans hBn)).mono ?_
    rintro e W' ⟨hv, ⟨ys, rfl, _, hj⟩ | ⟨pre, _, hj⟩⟩
    · exact ⟨hv, Or.inl ⟨[], rfl, hj⟩⟩
    · exact hj.elim
end Go.Proofs.Ytnfpiocjdhipcaa.SI
