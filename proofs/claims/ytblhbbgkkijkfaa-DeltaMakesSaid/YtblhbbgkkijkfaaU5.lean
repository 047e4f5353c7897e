/- Comparing two steps. -/
import Derived.Test.YtblhbbgkkijkfaaB0
import Derived.Laws.StructEq
namespace Go.Proofs.Ytblhbbgkkijkfaa
open Go.RowKit Go.Maps
theorem under117 : Try.prog.underlying 117 = some (.struct (Try.prog.fieldsOf 117)) := by kernel_rfl
theorem stood117 : Try.prog.stoodInHeld 117 = false := by kernel_rfl
theorem fields117 : ((Try.prog.fieldsOf 117).toList.map fun f => (f.name, f.type, f.offset)) = [("At", 3, 0), ("Len", 3, 1), ("Text", 9, 2)] := by kernel_rfl
theorem cmp117 (x0 x1 y0 y1 : Int) (x2 y2 : ByteArray) (w : World) :
    (Op.equalIn 10000 117 (.agg #[.int .i64 x0, .int .i64 x1, .string x2]) (.agg #[.int .i64 y0, .int .i64 y1, .string y2])).run Try.prog w = .ok (x0 == y0 && x1 == y1 && x2.toList == y2.toList) w := by
  rw [run_equalIn_agg w 9999 117 _ _ under117 stood117]
  have hf := fields117
  generalize (Try.prog.fieldsOf 117).toList = fs at *
  rcases fs with _ | ⟨f0, _ | ⟨f1, _ | ⟨f2, _ | ⟨f3, fs⟩⟩⟩⟩
  · simp at hf
  · simp at hf
  · simp at hf
  · simp only [List.map_cons, List.map_nil, List.cons.injEq, Prod.mk.injEq, and_true] at hf
    obtain ⟨⟨a0, a1, a2⟩, ⟨b0, b1, b2⟩, c0, c1, c2⟩ := hf
    simp [Op.eqFields, a0, a1, a2, b0, b1, b2, c0, c1, c2, go_sem]
    by_cases h0 : x0 = y0
    · by_cases h1 : x1 = y1
      · by_cases h2 : x2.toList = y2.toList
        · simp [h0, h1, h2]
        · simp [h0, h1, h2]
      · simp [h0, h1]
    · simp [h0]
  · simp at hf
end Go.Proofs.Ytblhbbgkkijkfaa
