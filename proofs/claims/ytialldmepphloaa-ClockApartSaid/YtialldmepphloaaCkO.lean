/- The document's clock: New of what it does not take. -/
import Derived.Test.YtialldmepphloaaCkN
namespace Go.Proofs.Ytialldmepphloaa.CR
open Go.RowKit Go.Fr Go.Proofs.Ytialldmepphloaa.CK

/-- the document's clock that New did not make -/
def DeadR (w : World) (b : Nat) : Prop := Blk w b [.bool false, .string ⟨#[]⟩, .int .u32 0, .int .u32 0, .int .u32 0, .int .u32 0, .slice none 0 0] 60

set_option maxRecDepth 100000 in
set_option maxHeartbeats 2000000 in
theorem new_no (nm : ByteArray) (mx bs mn n : Int) (w : World) (h : mx < 1 ∨ 2147483647 < mx ∨ mn < 1 ∨ mx < mn ∨ n < 0 ∨ 64 < n) :
    Calls Try.prog 27 #[.agg #[.string nm, .int .u32 mx, .int .u32 bs, .int .u32 mn], .int .i64 n] w fun e w' =>
      e = .returned (.tuple #[.pointer (some ⟨w.heap.size + 1, 0, none⟩), .int .i64 160]) ∧ DeadR w' (w.heap.size + 1) ∧ Kept (fun _ => False) w w' := by
  have bx := Blk.new w [.string nm, .int .u32 mx, .int .u32 bs, .int .u32 mn] 33
  have c1 := bx.cell 1 rfl
  have c3 := bx.cell 3 rfl
  have kA := ((Kept.refl (fun _ => False) w).alloc (.cells #[.string nm, .int .u32 mx, .int .u32 bs, .int .u32 mn] 33)).alloc (.cells #[.bool false, .string ⟨#[]⟩, .int .u32 0, .int .u32 0, .int .u32 0, .int .u32 0, .slice none 0 0] 60)
  have nb := Blk.new (w.alloc (.cells #[.string nm, .int .u32 mx, .int .u32 bs, .int .u32 mn] 33)) [.bool false, .string ⟨#[]⟩, .int .u32 0, .int .u32 0, .int .u32 0, .int .u32 0, .slice none 0 0] 60
  rw [World.size_alloc] at nb
  have fin : DeadR _ _ := nb
  clear nb
  by_cases a0 : mx < 1
  · go_enter Try.func27, Try.ntmps27
    go_wp2
    go_ret2
    exact ⟨rfl, fin, kA⟩
  by_cases a1 : 2147483647 < mx
  · go_enter Try.func27, Try.ntmps27
    go_wp2
    go_ret2
    exact ⟨rfl, fin, kA⟩
  by_cases a2 : mn < 1
  · go_enter Try.func27, Try.ntmps27
    go_wp2
    go_ret2
    exact ⟨rfl, fin, kA⟩
  by_cases a3 : mx < mn
  · go_enter Try.func27, Try.ntmps27
    go_wp2
    go_ret2
    exact ⟨rfl, fin, kA⟩
  by_cases a4 : n < 0
  · go_enter Try.func27, Try.ntmps27
    go_wp2
    go_ret2
    exact ⟨rfl, fin, kA⟩
  have a5 : 64 < n := by omega
  go_enter Try.func27, Try.ntmps27
  go_wp2
  go_ret2
  exact ⟨rfl, fin, kA⟩
end Go.Proofs.Ytialldmepphloaa.CR
