/- Maps whose entries are known one by one: a look-up, a store. No program in sight. -/
import Derived.MapKept
import Derived.Tactics
namespace Go.Proofs.YteoleblodhgheaaDoor
open Go Go.Instr
section
variable {P : Program} {w : World}
theorem run_getMap {r : Nat} {es : Array MapEntry} {clock : Nat} (h : w.heap[r]? = some (.map es clock)) : (getObj r).run P w = .ok (.map es clock) w := by
  simp [getObj, Sem.run, h]
theorem run_checkKey_plain {K : TypeId} {d : TypeDesc} (hd : P.underlying K = some d) (hp : d = .string ∨ ∃ k, d = .int k) (b : Bool) (key : Value) : (checkKey b 10000 K key).run P w = .ok () w := by
  unfold checkKey
  rcases hp with rfl | ⟨k, rfl⟩ <;> simp [Sem.run_bind, run_underlying hd, Result.andThen]
/-- m[key], m[key] with ok: what is there, or the zero value. -/
theorem run_lookup_known {T K E : TypeId} {d : TypeDesc} (hT : P.underlying T = some (.map K E)) (hd : P.underlying K = some d) (hp : d = .string ∨ ∃ k, d = .int k) {z : Value} (hz : ∀ w, (zeroValue E).run P w = .ok z w)
    {r : Nat} {es : Array MapEntry} {clock : Nat} (h : w.heap[r]? = some (.map es clock)) (key : Value) {a : Option (Nat × Value)} (ha : findNow d key es.toList 0 = some a) (ok : Bool) :
    (lookup T (.map (some r)) key ok).run P w = .ok (if ok then .tuple #[(a.map (·.2)).getD z, .bool a.isSome] else (a.map (·.2)).getD z) w := by
  unfold lookup
  simp only [Sem.run_bind, run_underlying hT, Result.andThen, run_getMap h, run_checkKey_plain hd hp, Sem.run_pure, MapKept.run_findKey (P := P) (w := w) hd ha]
  cases a with
  | none => cases ok <;> simp [Sem.run_bind, hz, Result.andThen]
  | some x => cases ok <;> simp [Sem.run_bind, Result.andThen]
theorem run_mapUpdate_new {T K E : TypeId} {d : TypeDesc} (hT : P.underlying T = some (.map K E)) (hd : P.underlying K = some d) (hp : d = .string ∨ ∃ k, d = .int k)
    {r : Nat} {es : Array MapEntry} {clock : Nat} (h : w.heap[r]? = some (.map es clock)) (key val : Value) (ha : findNow d key es.toList 0 = some none) :
    (mapUpdate T (.map (some r)) key val).run P w = .ok () { w with heap := w.heap.setIfInBounds r (.map (es.push { key, val, born := clock }) (clock + 1)) } := by
  unfold mapUpdate
  simp only [Sem.run_bind, run_underlying hT, Result.andThen, run_getMap h, run_checkKey_plain hd hp]
  rw [MapKept.run_findKey (P := P) (w := w) hd ha]
  simp [setObj, Sem.run, h]
end
end Go.Proofs.YteoleblodhgheaaDoor
