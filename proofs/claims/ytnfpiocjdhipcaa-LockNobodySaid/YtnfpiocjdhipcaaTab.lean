/- The kernel's tables as plain data, and how they lie in memory. No program is in sight here. -/
import Derived.Test.YtnfpiocjdhipcaaArgs
namespace Go.Tb
open Go.RowKit Go.Fr

structure TaskR where
  pr : Int
  ring : Int
  full : Bool
  limit : Int
  mask : Int
  inl : Int
  oa : Option Addr
  oc : Nat
  own : List Int
  auto : Int
def encT (x : TaskR) : List Value := [.int .i64 x.pr, .int .i64 x.ring, .bool x.full, .int .i64 x.limit, .int .u32 x.mask, .int .i64 x.inl, .slice x.oa x.own.length x.oc, .int .u32 x.auto]
structure AlarmR where
  counter : Int
  kind : Int
  task : Int
  mask : Int
  auto : Int
  time : Int
  cycle : Int
def encA (x : AlarmR) : List Value := [.int .i64 x.counter, .int .i64 x.kind, .int .i64 x.task, .int .u32 x.mask, .int .u32 x.auto, .int .u32 x.time, .int .u32 x.cycle]
structure IsrR where
  cat : Int
  pr : Int
  oa : Option Addr
  oc : Nat
  own : List Int
def encI (x : IsrR) : List Value := [.int .i64 x.cat, .int .i64 x.pr, .slice x.oa x.own.length x.oc]
structure MsgR where
  kind : Int
  len : Int
  src : Int
  init : Int
  queue : Int
  akind : Int
  atask : Int
  amask : Int
def encM (x : MsgR) : List Value := [.int .i64 x.kind, .int .i64 x.len, .int .i64 x.src, .int .u64 x.init, .int .i64 x.queue, .int .i64 x.akind, .int .i64 x.atask, .int .u32 x.amask]
def encE (x : Bool × Int) : List Value := [.bool x.1, .int .i64 x.2]

structure Tb where
  uses : Int
  modes : Int
  tasks : List TaskR
  ta : Option Addr
  tc : Nat
  rings : List (Int × Int)
  ra : Option Addr
  rc : Nat
  ress : List (Bool × Int)
  ea : Option Addr
  ec : Nat
  counters : List (Int × Int × Int)
  ca : Option Addr
  cc : Nat
  alarms : List AlarmR
  aa : Option Addr
  ac : Nat
  isrs : List IsrR
  ia : Option Addr
  ic : Nat
  msgs : List MsgR
  ma : Option Addr
  mc : Nat
  depth : Int
  frames : Int
  errs : Int
  backs : Int
def Tb.cells (T : Tb) : List Value := [.int .i64 T.uses, .int .i64 T.modes, .slice T.ta T.tasks.length T.tc, .slice T.ra T.rings.length T.rc, .slice T.ea T.ress.length T.ec, .slice T.ca T.counters.length T.cc,
  .slice T.aa T.alarms.length T.ac, .slice T.ia T.isrs.length T.ic, .slice T.ma T.msgs.length T.mc, .int .i64 T.depth, .int .i64 T.frames, .int .i64 T.errs, .int .i64 T.backs]

def I64 (x : Int) : Prop := -9223372036854775808 ≤ x ∧ x ≤ 9223372036854775807
def U32 (x : Int) : Prop := 0 ≤ x ∧ x ≤ 4294967295
def U64 (x : Int) : Prop := 0 ≤ x ∧ x ≤ 18446744073709551615

/-- the tables' numbers are of their kinds; no list is longer than a machine bears -/
structure Tb.Wf (T : Tb) : Prop where
  nums : I64 T.uses ∧ I64 T.modes ∧ I64 T.depth ∧ I64 T.frames ∧ I64 T.errs ∧ I64 T.backs
  lens : T.tasks.length ≤ 140737488355328 ∧ T.rings.length ≤ 140737488355328 ∧ T.ress.length ≤ 140737488355328 ∧ T.counters.length ≤ 140737488355328 ∧ T.alarms.length ≤ 140737488355328 ∧ T.isrs.length ≤ 140737488355328 ∧ T.msgs.length ≤ 140737488355328
  tasks : ∀ x ∈ T.tasks, I64 x.pr ∧ I64 x.ring ∧ I64 x.limit ∧ U32 x.mask ∧ I64 x.inl ∧ U32 x.auto ∧ x.own.length ≤ 140737488355328 ∧ ∀ r ∈ x.own, I64 r
  rings : ∀ x ∈ T.rings, I64 x.1 ∧ I64 x.2
  ress : ∀ x ∈ T.ress, I64 x.2
  counters : ∀ x ∈ T.counters, U32 x.1 ∧ U32 x.2.1 ∧ U32 x.2.2
  alarms : ∀ x ∈ T.alarms, I64 x.counter ∧ I64 x.kind ∧ I64 x.task ∧ U32 x.mask ∧ U32 x.auto ∧ U32 x.time ∧ U32 x.cycle
  isrs : ∀ x ∈ T.isrs, I64 x.cat ∧ I64 x.pr ∧ x.own.length ≤ 140737488355328 ∧ ∀ r ∈ x.own, I64 r
  msgs : ∀ x ∈ T.msgs, I64 x.kind ∧ I64 x.len ∧ I64 x.src ∧ U64 x.init ∧ I64 x.queue ∧ I64 x.akind ∧ I64 x.atask ∧ U32 x.amask

/-- the tables lie in memory -/
structure TabIn (w : World) (T : Tb) : Prop where
  tasks : CameL w 8 encT T.ta T.tasks
  town : ∀ x ∈ T.tasks, CameL w 1 (encK .i64) x.oa x.own
  rings : CameL w 2 (encKK .i64 .i64) T.ra T.rings
  ress : CameL w 2 encE T.ea T.ress
  counters : CameL w 3 (encKKK .u32 .u32 .u32) T.ca T.counters
  alarms : CameL w 7 encA T.aa T.alarms
  isrs : CameL w 3 encI T.ia T.isrs
  iown : ∀ x ∈ T.isrs, CameL w 1 (encK .i64) x.oa x.own
  msgs : CameL w 8 encM T.ma T.msgs

theorem TabIn.below {w w' : World} {T : Tb} (h : TabIn w T) (k : Below w.heap.size w w') : TabIn w' T :=
  ⟨h.tasks.below k (Nat.le_refl _), fun x hx => (h.town x hx).below k (Nat.le_refl _), h.rings.below k (Nat.le_refl _), h.ress.below k (Nat.le_refl _), h.counters.below k (Nat.le_refl _), h.alarms.below k (Nat.le_refl _), h.isrs.below k (Nat.le_refl _), fun x hx => (h.iown x hx).below k (Nat.le_refl _), h.msgs.below k (Nat.le_refl _)⟩
theorem TabIn.same {w w' : World} {T : Tb} (h : TabIn w T) (k : Kept (fun _ => False) w w') : TabIn w' T := h.below (k.below (Nat.le_refl _) (fun _ x => x.elim))
theorem camel_same {α : Type} {w w' : World} {sz : Nat} {enc : α → List Value} {ao : Option Addr} {l : List α} (h : CameL w sz enc ao l) (k : Kept (fun _ => False) w w') : CameL w' sz enc ao l := h.below (k.below (Nat.le_refl _) (fun _ x => x.elim)) (Nat.le_refl _)

/-- an element: where it lies, its cells -/
theorem camel_at {α : Type} {w : World} {sz : Nat} {enc : α → List Value} {ao : Option Addr} {l : List α} (h : CameL w sz enc ao l) {k : Nat} {x : α} (hx : l[k]? = some x) :
    ∃ b off, ao = some ⟨b, off, none⟩ ∧ b < w.heap.size ∧ ∀ (j : Nat) (v : Value), (enc x)[j]? = some v → w.cell? ⟨b, off + k * sz + j, none⟩ = some v := by
  obtain ⟨b, off, h1, h2, h3⟩ := h (by rintro rfl; simp at hx)
  exact ⟨b, off, h1, h2, fun j v hv => h3 k x hx j v hv⟩
/-- an element of one cell; the first cell of an element -/
theorem camel_one {α : Type} {w : World} {enc : α → List Value} {ao : Option Addr} {l : List α} (h : CameL w 1 enc ao l) {k : Nat} {x : α} (hx : l[k]? = some x) {v : Value} (hv : (enc x)[0]? = some v) :
    ∃ b off, ao = some ⟨b, off, none⟩ ∧ b < w.heap.size ∧ w.cell? ⟨b, off + k, none⟩ = some v := by
  obtain ⟨b, off, h1, h2, h3⟩ := camel_at h hx
  exact ⟨b, off, h1, h2, by simpa using h3 0 v hv⟩
/-- an answer is a Bool that says P -/
def BoolIs (e : Ending) (P : Prop) : Prop := ∃ b : Bool, e = .returned (.bool b) ∧ (b = true ↔ P)
theorem bool_is {P : Prop} (b : Bool) (h : b = true ↔ P) : BoolIs (.returned (.bool b)) P := ⟨b, rfl, h⟩
theorem bool_yes {P : Prop} (h : P) : BoolIs (.returned (.bool true)) P := ⟨true, rfl, (fun _ => h), fun _ => rfl⟩
theorem bool_no {P : Prop} (h : ¬ P) : BoolIs (.returned (.bool false)) P := ⟨false, rfl, (fun e => Bool.noConfusion e), fun hp => absurd hp h⟩
theorem at_of {α : Type} {l : List α} {k : Nat} (h : k < l.length) : ∃ x, l[k]? = some x ∧ x ∈ l := ⟨l[k], List.getElem?_eq_getElem h, List.getElem_mem h⟩
end Go.Tb
