/- What functions of the seat do: types, trees, widths, searches, names. -/
import Derived.Test.YtlkoaemljkdioaaDoorWF
import Derived.Test.YtlkoaemljkdioaaDoorProg
import Derived.KernelRfl
section
open Go Go.Proofs Go.Ew
namespace Go.Ew
@[simp] theorem ti1 : tiOf Tryd.prog 1 = some ⟨[Value.nilFunc], 8, false⟩ := by kernel_rfl
@[simp] theorem el1 : elemOf Tryd.prog 1 = none := by kernel_rfl
@[simp] theorem ti2 : tiOf Tryd.prog 2 = some ⟨[(Value.int IntKind.i64 0)], 8, false⟩ := by kernel_rfl
@[simp] theorem el2 : elemOf Tryd.prog 2 = none := by kernel_rfl
@[simp] theorem un2 : Tryd.prog.underlying 2 = some (TypeDesc.int IntKind.i64) := by kernel_rfl
@[simp] theorem ti3 : tiOf Tryd.prog 3 = some ⟨[(Value.int IntKind.i64 0)], 8, false⟩ := by kernel_rfl
@[simp] theorem el3 : elemOf Tryd.prog 3 = none := by kernel_rfl
@[simp] theorem un3 : Tryd.prog.underlying 3 = some (TypeDesc.int IntKind.i64) := by kernel_rfl
@[simp] theorem ti4 : tiOf Tryd.prog 4 = some ⟨[(Value.bool false)], 1, false⟩ := by kernel_rfl
@[simp] theorem el4 : elemOf Tryd.prog 4 = none := by kernel_rfl
@[simp] theorem un4 : Tryd.prog.underlying 4 = some TypeDesc.bool := by kernel_rfl
@[simp] theorem ti5 : tiOf Tryd.prog 5 = some ⟨[(Value.int IntKind.u8 0)], 1, false⟩ := by kernel_rfl
@[simp] theorem el5 : elemOf Tryd.prog 5 = none := by kernel_rfl
@[simp] theorem un5 : Tryd.prog.underlying 5 = some (TypeDesc.int IntKind.u8) := by kernel_rfl
@[simp] theorem ti6 : tiOf Tryd.prog 6 = some ⟨[(Value.int IntKind.u8 0)], 1, false⟩ := by kernel_rfl
@[simp] theorem el6 : elemOf Tryd.prog 6 = none := by kernel_rfl
@[simp] theorem un6 : Tryd.prog.underlying 6 = some (TypeDesc.int IntKind.u8) := by kernel_rfl
@[simp] theorem ti7 : tiOf Tryd.prog 7 = some ⟨[(Value.int IntKind.i64 0), (Value.int IntKind.i64 0), (Value.bool false), (Value.int IntKind.u8 0)], 24, true⟩ := by kernel_rfl
@[simp] theorem st7 : stcOf Tryd.prog 7 = some [(0, 2), (1, 3), (2, 4), (3, 6)] := by kernel_rfl
@[simp] theorem el7 : elemOf Tryd.prog 7 = none := by kernel_rfl
@[simp] theorem ti8 : tiOf Tryd.prog 8 = some ⟨[(Value.int IntKind.i64 0), (Value.int IntKind.i64 0), (Value.bool false), (Value.int IntKind.u8 0)], 24, true⟩ := by kernel_rfl
@[simp] theorem st8 : stcOf Tryd.prog 8 = some [(0, 2), (1, 3), (2, 4), (3, 6)] := by kernel_rfl
@[simp] theorem el8 : elemOf Tryd.prog 8 = none := by kernel_rfl
@[simp] theorem ti9 : tiOf Tryd.prog 9 = some ⟨[(Value.string { data := #[] })], 16, false⟩ := by kernel_rfl
@[simp] theorem el9 : elemOf Tryd.prog 9 = none := by kernel_rfl
@[simp] theorem un9 : Tryd.prog.underlying 9 = some TypeDesc.string := by kernel_rfl
@[simp] theorem ti10 : tiOf Tryd.prog 10 = some ⟨[(Value.string { data := #[] })], 16, false⟩ := by kernel_rfl
@[simp] theorem el10 : elemOf Tryd.prog 10 = none := by kernel_rfl
@[simp] theorem un10 : Tryd.prog.underlying 10 = some TypeDesc.string := by kernel_rfl
@[simp] theorem ti11 : tiOf Tryd.prog 11 = some ⟨[(Value.string { data := #[] })], 16, false⟩ := by kernel_rfl
@[simp] theorem el11 : elemOf Tryd.prog 11 = none := by kernel_rfl
@[simp] theorem un11 : Tryd.prog.underlying 11 = some TypeDesc.string := by kernel_rfl
@[simp] theorem ti12 : tiOf Tryd.prog 12 = some ⟨[(Value.int IntKind.u64 0)], 8, false⟩ := by kernel_rfl
@[simp] theorem el12 : elemOf Tryd.prog 12 = none := by kernel_rfl
@[simp] theorem un12 : Tryd.prog.underlying 12 = some (TypeDesc.int IntKind.u64) := by kernel_rfl
@[simp] theorem ti13 : tiOf Tryd.prog 13 = some ⟨[(Value.string { data := #[] }), (Value.int IntKind.u64 0)], 24, true⟩ := by kernel_rfl
@[simp] theorem st13 : stcOf Tryd.prog 13 = some [(0, 9), (1, 12)] := by kernel_rfl
@[simp] theorem el13 : elemOf Tryd.prog 13 = none := by kernel_rfl
@[simp] theorem ti14 : tiOf Tryd.prog 14 = some ⟨[(Value.string { data := #[] }), (Value.int IntKind.u64 0)], 24, true⟩ := by kernel_rfl
@[simp] theorem st14 : stcOf Tryd.prog 14 = some [(0, 9), (1, 12)] := by kernel_rfl
@[simp] theorem el14 : elemOf Tryd.prog 14 = none := by kernel_rfl
@[simp] theorem ti15 : tiOf Tryd.prog 15 = some ⟨[(Value.pointer none)], 8, false⟩ := by kernel_rfl
@[simp] theorem el15 : elemOf Tryd.prog 15 = none := by kernel_rfl
@[simp] theorem ti16 : tiOf Tryd.prog 16 = some ⟨[(Value.pointer none)], 8, false⟩ := by kernel_rfl
@[simp] theorem el16 : elemOf Tryd.prog 16 = none := by kernel_rfl
@[simp] theorem ti17 : tiOf Tryd.prog 17 = some ⟨[(Value.pointer none)], 8, false⟩ := by kernel_rfl
@[simp] theorem el17 : elemOf Tryd.prog 17 = none := by kernel_rfl
@[simp] theorem ti18 : tiOf Tryd.prog 18 = some ⟨[(Value.pointer none)], 8, true⟩ := by kernel_rfl
@[simp] theorem st18 : stcOf Tryd.prog 18 = some [(0, 17)] := by kernel_rfl
@[simp] theorem el18 : elemOf Tryd.prog 18 = none := by kernel_rfl
@[simp] theorem ti19 : tiOf Tryd.prog 19 = some ⟨[(Value.pointer none)], 8, true⟩ := by kernel_rfl
@[simp] theorem st19 : stcOf Tryd.prog 19 = some [(0, 17)] := by kernel_rfl
@[simp] theorem el19 : elemOf Tryd.prog 19 = none := by kernel_rfl
@[simp] theorem ti21 : tiOf Tryd.prog 21 = some ⟨[(Value.int IntKind.i32 0)], 4, false⟩ := by kernel_rfl
@[simp] theorem el21 : elemOf Tryd.prog 21 = none := by kernel_rfl
@[simp] theorem un21 : Tryd.prog.underlying 21 = some (TypeDesc.int IntKind.i32) := by kernel_rfl
@[simp] theorem ti22 : tiOf Tryd.prog 22 = some ⟨[(Value.slice none 0 0)], 24, false⟩ := by kernel_rfl
@[simp] theorem el22 : elemOf Tryd.prog 22 = some 45 := by kernel_rfl
@[simp] theorem ti23 : tiOf Tryd.prog 23 = some ⟨[(Value.slice none 0 0)], 24, false⟩ := by kernel_rfl
@[simp] theorem el23 : elemOf Tryd.prog 23 = some 48 := by kernel_rfl
@[simp] theorem ti24 : tiOf Tryd.prog 24 = some ⟨[(Value.slice none 0 0), (Value.slice none 0 0)], 48, true⟩ := by kernel_rfl
@[simp] theorem st24 : stcOf Tryd.prog 24 = some [(0, 22), (1, 23)] := by kernel_rfl
@[simp] theorem el24 : elemOf Tryd.prog 24 = none := by kernel_rfl
@[simp] theorem ti25 : tiOf Tryd.prog 25 = some ⟨[(Value.slice none 0 0), (Value.slice none 0 0)], 48, true⟩ := by kernel_rfl
@[simp] theorem st25 : stcOf Tryd.prog 25 = some [(0, 22), (1, 23)] := by kernel_rfl
@[simp] theorem el25 : elemOf Tryd.prog 25 = none := by kernel_rfl
@[simp] theorem ti26 : tiOf Tryd.prog 26 = some ⟨[(Value.int IntKind.u64 0)], 8, false⟩ := by kernel_rfl
@[simp] theorem el26 : elemOf Tryd.prog 26 = none := by kernel_rfl
@[simp] theorem un26 : Tryd.prog.underlying 26 = some (TypeDesc.int IntKind.u64) := by kernel_rfl
@[simp] theorem ti27 : tiOf Tryd.prog 27 = some ⟨[(Value.slice none 0 0)], 24, false⟩ := by kernel_rfl
@[simp] theorem el27 : elemOf Tryd.prog 27 = some 29 := by kernel_rfl
@[simp] theorem ti28 : tiOf Tryd.prog 28 = some ⟨[(Value.int IntKind.u8 0), (Value.int IntKind.i64 0), (Value.int IntKind.u64 0), (Value.string { data := #[] }), (Value.int IntKind.u8 0), (Value.slice none 0 0)], 72, true⟩ := by kernel_rfl
@[simp] theorem st28 : stcOf Tryd.prog 28 = some [(0, 5), (1, 3), (2, 26), (3, 9), (4, 5), (5, 27)] := by kernel_rfl
@[simp] theorem el28 : elemOf Tryd.prog 28 = none := by kernel_rfl
@[simp] theorem ti29 : tiOf Tryd.prog 29 = some ⟨[(Value.int IntKind.u8 0), (Value.int IntKind.i64 0), (Value.int IntKind.u64 0), (Value.string { data := #[] }), (Value.int IntKind.u8 0), (Value.slice none 0 0)], 72, true⟩ := by kernel_rfl
@[simp] theorem st29 : stcOf Tryd.prog 29 = some [(0, 5), (1, 3), (2, 26), (3, 9), (4, 5), (5, 27)] := by kernel_rfl
@[simp] theorem el29 : elemOf Tryd.prog 29 = none := by kernel_rfl
@[simp] theorem ti30 : tiOf Tryd.prog 30 = some ⟨[Value.nilFunc], 8, false⟩ := by kernel_rfl
@[simp] theorem el30 : elemOf Tryd.prog 30 = none := by kernel_rfl
@[simp] theorem ti31 : tiOf Tryd.prog 31 = some ⟨[Value.nilFunc], 8, false⟩ := by kernel_rfl
@[simp] theorem el31 : elemOf Tryd.prog 31 = none := by kernel_rfl
@[simp] theorem ti32 : tiOf Tryd.prog 32 = some ⟨[(Value.slice none 0 0)], 24, false⟩ := by kernel_rfl
@[simp] theorem el32 : elemOf Tryd.prog 32 = some 50 := by kernel_rfl
@[simp] theorem ti33 : tiOf Tryd.prog 33 = some ⟨[(Value.int IntKind.i64 0)], 8, false⟩ := by kernel_rfl
@[simp] theorem el33 : elemOf Tryd.prog 33 = none := by kernel_rfl
@[simp] theorem un33 : Tryd.prog.underlying 33 = some (TypeDesc.int IntKind.i64) := by kernel_rfl
@[simp] theorem ti35 : tiOf Tryd.prog 35 = some ⟨[Value.nilFunc], 8, false⟩ := by kernel_rfl
@[simp] theorem el35 : elemOf Tryd.prog 35 = none := by kernel_rfl
@[simp] theorem ti37 : tiOf Tryd.prog 37 = some ⟨[Value.nilFunc], 8, false⟩ := by kernel_rfl
@[simp] theorem el37 : elemOf Tryd.prog 37 = none := by kernel_rfl
@[simp] theorem ti39 : tiOf Tryd.prog 39 = some ⟨[Value.nilFunc], 8, false⟩ := by kernel_rfl
@[simp] theorem el39 : elemOf Tryd.prog 39 = none := by kernel_rfl
@[simp] theorem ti41 : tiOf Tryd.prog 41 = some ⟨[Value.nilFunc], 8, false⟩ := by kernel_rfl
@[simp] theorem el41 : elemOf Tryd.prog 41 = none := by kernel_rfl
@[simp] theorem ti42 : tiOf Tryd.prog 42 = some ⟨[Value.nilFunc], 8, false⟩ := by kernel_rfl
@[simp] theorem el42 : elemOf Tryd.prog 42 = none := by kernel_rfl
@[simp] theorem ti43 : tiOf Tryd.prog 43 = some ⟨[Value.nilFunc], 8, false⟩ := by kernel_rfl
@[simp] theorem el43 : elemOf Tryd.prog 43 = none := by kernel_rfl
@[simp] theorem ti44 : tiOf Tryd.prog 44 = some ⟨[(Value.string { data := #[] }), (Value.int IntKind.i64 0), (Value.int IntKind.i64 0)], 32, true⟩ := by kernel_rfl
@[simp] theorem st44 : stcOf Tryd.prog 44 = some [(0, 9), (1, 3), (2, 3)] := by kernel_rfl
@[simp] theorem el44 : elemOf Tryd.prog 44 = none := by kernel_rfl
@[simp] theorem ti45 : tiOf Tryd.prog 45 = some ⟨[(Value.string { data := #[] }), (Value.int IntKind.i64 0), (Value.int IntKind.i64 0)], 32, true⟩ := by kernel_rfl
@[simp] theorem st45 : stcOf Tryd.prog 45 = some [(0, 9), (1, 3), (2, 3)] := by kernel_rfl
@[simp] theorem el45 : elemOf Tryd.prog 45 = none := by kernel_rfl
@[simp] theorem ti46 : tiOf Tryd.prog 46 = some ⟨[(Value.slice none 0 0)], 24, false⟩ := by kernel_rfl
@[simp] theorem el46 : elemOf Tryd.prog 46 = some 65 := by kernel_rfl
@[simp] theorem ti47 : tiOf Tryd.prog 47 = some ⟨[(Value.string { data := #[] }), (Value.slice none 0 0), (Value.int IntKind.i64 0), (Value.slice none 0 0)], 72, true⟩ := by kernel_rfl
@[simp] theorem st47 : stcOf Tryd.prog 47 = some [(0, 9), (1, 32), (2, 3), (3, 46)] := by kernel_rfl
@[simp] theorem el47 : elemOf Tryd.prog 47 = none := by kernel_rfl
@[simp] theorem ti48 : tiOf Tryd.prog 48 = some ⟨[(Value.string { data := #[] }), (Value.slice none 0 0), (Value.int IntKind.i64 0), (Value.slice none 0 0)], 72, true⟩ := by kernel_rfl
@[simp] theorem st48 : stcOf Tryd.prog 48 = some [(0, 9), (1, 32), (2, 3), (3, 46)] := by kernel_rfl
@[simp] theorem el48 : elemOf Tryd.prog 48 = none := by kernel_rfl
@[simp] theorem ti49 : tiOf Tryd.prog 49 = some ⟨[(Value.string { data := #[] }), (Value.int IntKind.i64 0)], 24, true⟩ := by kernel_rfl
@[simp] theorem st49 : stcOf Tryd.prog 49 = some [(0, 9), (1, 3)] := by kernel_rfl
@[simp] theorem el49 : elemOf Tryd.prog 49 = none := by kernel_rfl
@[simp] theorem ti50 : tiOf Tryd.prog 50 = some ⟨[(Value.string { data := #[] }), (Value.int IntKind.i64 0)], 24, true⟩ := by kernel_rfl
@[simp] theorem st50 : stcOf Tryd.prog 50 = some [(0, 9), (1, 3)] := by kernel_rfl
@[simp] theorem el50 : elemOf Tryd.prog 50 = none := by kernel_rfl
@[simp] theorem ti51 : tiOf Tryd.prog 51 = some ⟨[Value.nilFunc], 8, false⟩ := by kernel_rfl
@[simp] theorem el51 : elemOf Tryd.prog 51 = none := by kernel_rfl
@[simp] theorem ti52 : tiOf Tryd.prog 52 = some ⟨[Value.nilFunc], 8, false⟩ := by kernel_rfl
@[simp] theorem el52 : elemOf Tryd.prog 52 = none := by kernel_rfl
@[simp] theorem ti53 : tiOf Tryd.prog 53 = some ⟨[Value.nilFunc], 8, false⟩ := by kernel_rfl
@[simp] theorem el53 : elemOf Tryd.prog 53 = none := by kernel_rfl
@[simp] theorem ti54 : tiOf Tryd.prog 54 = some ⟨[Value.nilFunc], 8, false⟩ := by kernel_rfl
@[simp] theorem el54 : elemOf Tryd.prog 54 = none := by kernel_rfl
@[simp] theorem ti55 : tiOf Tryd.prog 55 = some ⟨[Value.nilFunc], 8, false⟩ := by kernel_rfl
@[simp] theorem el55 : elemOf Tryd.prog 55 = none := by kernel_rfl
@[simp] theorem ti56 : tiOf Tryd.prog 56 = some ⟨[(Value.pointer none)], 8, false⟩ := by kernel_rfl
@[simp] theorem el56 : elemOf Tryd.prog 56 = none := by kernel_rfl
@[simp] theorem ti57 : tiOf Tryd.prog 57 = some ⟨[(Value.slice none 0 0), (Value.slice none 0 0), (Value.string { data := #[] }), (Value.slice none 0 0), (Value.int IntKind.i64 0), (Value.slice none 0 0), (Value.slice none 0 0)], 144, true⟩ := by kernel_rfl
@[simp] theorem st57 : stcOf Tryd.prog 57 = some [(0, 25), (2, 48), (6, 32)] := by kernel_rfl
@[simp] theorem el57 : elemOf Tryd.prog 57 = none := by kernel_rfl
@[simp] theorem ti58 : tiOf Tryd.prog 58 = some ⟨[(Value.slice none 0 0), (Value.slice none 0 0), (Value.string { data := #[] }), (Value.slice none 0 0), (Value.int IntKind.i64 0), (Value.slice none 0 0), (Value.slice none 0 0)], 144, true⟩ := by kernel_rfl
@[simp] theorem st58 : stcOf Tryd.prog 58 = some [(0, 25), (2, 48), (6, 32)] := by kernel_rfl
@[simp] theorem el58 : elemOf Tryd.prog 58 = none := by kernel_rfl
@[simp] theorem ti59 : tiOf Tryd.prog 59 = some ⟨[Value.nilFunc], 8, false⟩ := by kernel_rfl
@[simp] theorem el59 : elemOf Tryd.prog 59 = none := by kernel_rfl
@[simp] theorem ti60 : tiOf Tryd.prog 60 = some ⟨[(Value.pointer none)], 8, false⟩ := by kernel_rfl
@[simp] theorem el60 : elemOf Tryd.prog 60 = none := by kernel_rfl
@[simp] theorem ti61 : tiOf Tryd.prog 61 = some ⟨[(Value.slice none 0 0), (Value.slice none 0 0), (Value.int IntKind.i64 0), (Value.slice none 0 0), (Value.int IntKind.i64 0)], 88, true⟩ := by kernel_rfl
@[simp] theorem st61 : stcOf Tryd.prog 61 = some [(0, 25), (2, 3), (3, 32), (4, 3)] := by kernel_rfl
@[simp] theorem el61 : elemOf Tryd.prog 61 = none := by kernel_rfl
@[simp] theorem ti62 : tiOf Tryd.prog 62 = some ⟨[(Value.slice none 0 0), (Value.slice none 0 0), (Value.int IntKind.i64 0), (Value.slice none 0 0), (Value.int IntKind.i64 0)], 88, true⟩ := by kernel_rfl
@[simp] theorem st62 : stcOf Tryd.prog 62 = some [(0, 25), (2, 3), (3, 32), (4, 3)] := by kernel_rfl
@[simp] theorem el62 : elemOf Tryd.prog 62 = none := by kernel_rfl
@[simp] theorem ti63 : tiOf Tryd.prog 63 = some ⟨[Value.nilFunc], 8, false⟩ := by kernel_rfl
@[simp] theorem el63 : elemOf Tryd.prog 63 = none := by kernel_rfl
@[simp] theorem ti64 : tiOf Tryd.prog 64 = some ⟨[(Value.int IntKind.u8 0), (Value.string { data := #[] }), (Value.string { data := #[] }), (Value.int IntKind.i64 0), (Value.slice none 0 0), (Value.slice none 0 0), (Value.slice none 0 0)], 120, true⟩ := by kernel_rfl
@[simp] theorem st64 : stcOf Tryd.prog 64 = some [(0, 5), (1, 9), (2, 9), (3, 3), (4, 27), (5, 46), (6, 46)] := by kernel_rfl
@[simp] theorem el64 : elemOf Tryd.prog 64 = none := by kernel_rfl
@[simp] theorem ti65 : tiOf Tryd.prog 65 = some ⟨[(Value.int IntKind.u8 0), (Value.string { data := #[] }), (Value.string { data := #[] }), (Value.int IntKind.i64 0), (Value.slice none 0 0), (Value.slice none 0 0), (Value.slice none 0 0)], 120, true⟩ := by kernel_rfl
@[simp] theorem st65 : stcOf Tryd.prog 65 = some [(0, 5), (1, 9), (2, 9), (3, 3), (4, 27), (5, 46), (6, 46)] := by kernel_rfl
@[simp] theorem el65 : elemOf Tryd.prog 65 = none := by kernel_rfl
@[simp] theorem ti66 : tiOf Tryd.prog 66 = some ⟨[Value.nilFunc], 8, false⟩ := by kernel_rfl
@[simp] theorem el66 : elemOf Tryd.prog 66 = none := by kernel_rfl
@[simp] theorem ti67 : tiOf Tryd.prog 67 = some ⟨[Value.nilFunc], 8, false⟩ := by kernel_rfl
@[simp] theorem el67 : elemOf Tryd.prog 67 = none := by kernel_rfl
@[simp] theorem ti68 : tiOf Tryd.prog 68 = some ⟨[Value.nilFunc], 8, false⟩ := by kernel_rfl
@[simp] theorem el68 : elemOf Tryd.prog 68 = none := by kernel_rfl
@[simp] theorem ti69 : tiOf Tryd.prog 69 = some ⟨[Value.nilFunc], 8, false⟩ := by kernel_rfl
@[simp] theorem el69 : elemOf Tryd.prog 69 = none := by kernel_rfl
@[simp] theorem ti70 : tiOf Tryd.prog 70 = some ⟨[(Value.map none)], 8, false⟩ := by kernel_rfl
@[simp] theorem el70 : elemOf Tryd.prog 70 = none := by kernel_rfl
@[simp] theorem mp70 : mapOfT Tryd.prog 70 = some (none, (Value.bool false)) := by kernel_rfl
@[simp] theorem ti71 : tiOf Tryd.prog 71 = some ⟨[Value.nilFunc], 8, false⟩ := by kernel_rfl
@[simp] theorem el71 : elemOf Tryd.prog 71 = none := by kernel_rfl
@[simp] theorem ti72 : tiOf Tryd.prog 72 = some ⟨[Value.nilFunc], 8, false⟩ := by kernel_rfl
@[simp] theorem el72 : elemOf Tryd.prog 72 = none := by kernel_rfl
@[simp] theorem ti73 : tiOf Tryd.prog 73 = some ⟨[(Value.slice none 0 0)], 24, false⟩ := by kernel_rfl
@[simp] theorem el73 : elemOf Tryd.prog 73 = some 9 := by kernel_rfl
@[simp] theorem ti74 : tiOf Tryd.prog 74 = some ⟨[Value.nilFunc], 8, false⟩ := by kernel_rfl
@[simp] theorem el74 : elemOf Tryd.prog 74 = none := by kernel_rfl
@[simp] theorem ti75 : tiOf Tryd.prog 75 = some ⟨[Value.nilFunc], 8, false⟩ := by kernel_rfl
@[simp] theorem el75 : elemOf Tryd.prog 75 = none := by kernel_rfl
@[simp] theorem ti76 : tiOf Tryd.prog 76 = some ⟨[Value.nilFunc], 8, false⟩ := by kernel_rfl
@[simp] theorem el76 : elemOf Tryd.prog 76 = none := by kernel_rfl
@[simp] theorem ti77 : tiOf Tryd.prog 77 = some ⟨[Value.nilFunc], 8, false⟩ := by kernel_rfl
@[simp] theorem el77 : elemOf Tryd.prog 77 = none := by kernel_rfl
@[simp] theorem ti78 : tiOf Tryd.prog 78 = some ⟨[Value.nilFunc], 8, false⟩ := by kernel_rfl
@[simp] theorem el78 : elemOf Tryd.prog 78 = none := by kernel_rfl
@[simp] theorem ti79 : tiOf Tryd.prog 79 = some ⟨[Value.nilFunc], 8, false⟩ := by kernel_rfl
@[simp] theorem el79 : elemOf Tryd.prog 79 = none := by kernel_rfl
@[simp] theorem ti80 : tiOf Tryd.prog 80 = some ⟨[Value.nilFunc], 8, false⟩ := by kernel_rfl
@[simp] theorem el80 : elemOf Tryd.prog 80 = none := by kernel_rfl
@[simp] theorem ti81 : tiOf Tryd.prog 81 = some ⟨[(Value.slice none 0 0)], 24, false⟩ := by kernel_rfl
@[simp] theorem el81 : elemOf Tryd.prog 81 = some 3 := by kernel_rfl
@[simp] theorem ti82 : tiOf Tryd.prog 82 = some ⟨[Value.nilFunc], 8, false⟩ := by kernel_rfl
@[simp] theorem el82 : elemOf Tryd.prog 82 = none := by kernel_rfl
@[simp] theorem ti83 : tiOf Tryd.prog 83 = some ⟨[Value.nilFunc], 8, false⟩ := by kernel_rfl
@[simp] theorem el83 : elemOf Tryd.prog 83 = none := by kernel_rfl
@[simp] theorem ti84 : tiOf Tryd.prog 84 = some ⟨[(Value.map none)], 8, false⟩ := by kernel_rfl
@[simp] theorem el84 : elemOf Tryd.prog 84 = none := by kernel_rfl
@[simp] theorem mp84 : mapOfT Tryd.prog 84 = some (none, (Value.int IntKind.i64 0)) := by kernel_rfl
@[simp] theorem ti85 : tiOf Tryd.prog 85 = some ⟨[Value.nilFunc], 8, false⟩ := by kernel_rfl
@[simp] theorem el85 : elemOf Tryd.prog 85 = none := by kernel_rfl
@[simp] theorem ti86 : tiOf Tryd.prog 86 = some ⟨[(Value.int IntKind.u64 0)], 8, false⟩ := by kernel_rfl
@[simp] theorem el86 : elemOf Tryd.prog 86 = none := by kernel_rfl
@[simp] theorem un86 : Tryd.prog.underlying 86 = some (TypeDesc.int IntKind.u64) := by kernel_rfl
@[simp] theorem ti87 : tiOf Tryd.prog 87 = some ⟨[Value.nilFunc], 8, false⟩ := by kernel_rfl
@[simp] theorem el87 : elemOf Tryd.prog 87 = none := by kernel_rfl
@[simp] theorem ti88 : tiOf Tryd.prog 88 = some ⟨[Value.nilFunc], 8, false⟩ := by kernel_rfl
@[simp] theorem el88 : elemOf Tryd.prog 88 = none := by kernel_rfl
@[simp] theorem ti89 : tiOf Tryd.prog 89 = some ⟨[(Value.int IntKind.i64 0), (Value.int IntKind.i64 0), (Value.int IntKind.i64 0), (Value.bool false)], 32, true⟩ := by kernel_rfl
@[simp] theorem st89 : stcOf Tryd.prog 89 = some [(0, 3), (1, 3), (2, 3), (3, 4)] := by kernel_rfl
@[simp] theorem el89 : elemOf Tryd.prog 89 = none := by kernel_rfl
@[simp] theorem ti90 : tiOf Tryd.prog 90 = some ⟨[(Value.int IntKind.i64 0), (Value.int IntKind.i64 0), (Value.int IntKind.i64 0), (Value.bool false)], 32, true⟩ := by kernel_rfl
@[simp] theorem st90 : stcOf Tryd.prog 90 = some [(0, 3), (1, 3), (2, 3), (3, 4)] := by kernel_rfl
@[simp] theorem el90 : elemOf Tryd.prog 90 = none := by kernel_rfl
@[simp] theorem ti91 : tiOf Tryd.prog 91 = some ⟨[Value.nilFunc], 8, false⟩ := by kernel_rfl
@[simp] theorem el91 : elemOf Tryd.prog 91 = none := by kernel_rfl
@[simp] theorem ti92 : tiOf Tryd.prog 92 = some ⟨[Value.nilFunc], 8, false⟩ := by kernel_rfl
@[simp] theorem el92 : elemOf Tryd.prog 92 = none := by kernel_rfl
@[simp] theorem ti93 : tiOf Tryd.prog 93 = some ⟨[Value.nilFunc], 8, false⟩ := by kernel_rfl
@[simp] theorem el93 : elemOf Tryd.prog 93 = none := by kernel_rfl
@[simp] theorem ti94 : tiOf Tryd.prog 94 = some ⟨[Value.nilFunc], 8, false⟩ := by kernel_rfl
@[simp] theorem el94 : elemOf Tryd.prog 94 = none := by kernel_rfl
@[simp] theorem ti95 : tiOf Tryd.prog 95 = some ⟨[Value.nilFunc], 8, false⟩ := by kernel_rfl
@[simp] theorem el95 : elemOf Tryd.prog 95 = none := by kernel_rfl
@[simp] theorem ti96 : tiOf Tryd.prog 96 = some ⟨[Value.nilFunc], 8, false⟩ := by kernel_rfl
@[simp] theorem el96 : elemOf Tryd.prog 96 = none := by kernel_rfl
@[simp] theorem ti98 : tiOf Tryd.prog 98 = some ⟨[Value.nilFunc], 8, false⟩ := by kernel_rfl
@[simp] theorem el98 : elemOf Tryd.prog 98 = none := by kernel_rfl
@[simp] theorem ti99 : tiOf Tryd.prog 99 = some ⟨[Value.nilFunc], 8, false⟩ := by kernel_rfl
@[simp] theorem el99 : elemOf Tryd.prog 99 = none := by kernel_rfl
@[simp] theorem ti100 : tiOf Tryd.prog 100 = some ⟨[Value.nilFunc], 8, false⟩ := by kernel_rfl
@[simp] theorem el100 : elemOf Tryd.prog 100 = none := by kernel_rfl
@[simp] theorem ti101 : tiOf Tryd.prog 101 = some ⟨[Value.nilFunc], 8, false⟩ := by kernel_rfl
@[simp] theorem el101 : elemOf Tryd.prog 101 = none := by kernel_rfl
@[simp] theorem ti102 : tiOf Tryd.prog 102 = some ⟨[Value.nilFunc], 8, false⟩ := by kernel_rfl
@[simp] theorem el102 : elemOf Tryd.prog 102 = none := by kernel_rfl
@[simp] theorem ti103 : tiOf Tryd.prog 103 = some ⟨[Value.nilFunc], 8, false⟩ := by kernel_rfl
@[simp] theorem el103 : elemOf Tryd.prog 103 = none := by kernel_rfl
@[simp] theorem ti104 : tiOf Tryd.prog 104 = some ⟨[Value.nilFunc], 8, false⟩ := by kernel_rfl
@[simp] theorem el104 : elemOf Tryd.prog 104 = none := by kernel_rfl
@[simp] theorem ti105 : tiOf Tryd.prog 105 = some ⟨[Value.nilFunc], 8, false⟩ := by kernel_rfl
@[simp] theorem el105 : elemOf Tryd.prog 105 = none := by kernel_rfl
@[simp] theorem ti106 : tiOf Tryd.prog 106 = some ⟨[(Value.pointer none)], 8, false⟩ := by kernel_rfl
@[simp] theorem el106 : elemOf Tryd.prog 106 = none := by kernel_rfl
@[simp] theorem ti107 : tiOf Tryd.prog 107 = some ⟨[Value.nilFunc], 8, false⟩ := by kernel_rfl
@[simp] theorem el107 : elemOf Tryd.prog 107 = none := by kernel_rfl
@[simp] theorem ti108 : tiOf Tryd.prog 108 = some ⟨[Value.nilFunc], 8, false⟩ := by kernel_rfl
@[simp] theorem el108 : elemOf Tryd.prog 108 = none := by kernel_rfl
@[simp] theorem ti109 : tiOf Tryd.prog 109 = some ⟨[Value.nilFunc], 8, false⟩ := by kernel_rfl
@[simp] theorem el109 : elemOf Tryd.prog 109 = none := by kernel_rfl
@[simp] theorem ti110 : tiOf Tryd.prog 110 = some ⟨[Value.nilFunc], 8, false⟩ := by kernel_rfl
@[simp] theorem el110 : elemOf Tryd.prog 110 = none := by kernel_rfl
@[simp] theorem ti111 : tiOf Tryd.prog 111 = some ⟨[Value.nilFunc], 8, false⟩ := by kernel_rfl
@[simp] theorem el111 : elemOf Tryd.prog 111 = none := by kernel_rfl
@[simp] theorem ti112 : tiOf Tryd.prog 112 = some ⟨[Value.nilFunc], 8, false⟩ := by kernel_rfl
@[simp] theorem el112 : elemOf Tryd.prog 112 = none := by kernel_rfl
@[simp] theorem ti113 : tiOf Tryd.prog 113 = some ⟨[Value.nilFunc], 8, false⟩ := by kernel_rfl
@[simp] theorem el113 : elemOf Tryd.prog 113 = none := by kernel_rfl
@[simp] theorem ti114 : tiOf Tryd.prog 114 = some ⟨[Value.nilFunc], 8, false⟩ := by kernel_rfl
@[simp] theorem el114 : elemOf Tryd.prog 114 = none := by kernel_rfl
@[simp] theorem ti115 : tiOf Tryd.prog 115 = some ⟨[Value.nilFunc], 8, false⟩ := by kernel_rfl
@[simp] theorem el115 : elemOf Tryd.prog 115 = none := by kernel_rfl
@[simp] theorem ti116 : tiOf Tryd.prog 116 = some ⟨[Value.nilFunc], 8, false⟩ := by kernel_rfl
@[simp] theorem el116 : elemOf Tryd.prog 116 = none := by kernel_rfl
@[simp] theorem ti117 : tiOf Tryd.prog 117 = some ⟨[(Value.pointer none), (Value.pointer none), (Value.pointer none), (Value.string { data := #[] })], 40, true⟩ := by kernel_rfl
@[simp] theorem st117 : stcOf Tryd.prog 117 = some [(0, 17), (1, 17), (2, 17), (3, 9)] := by kernel_rfl
@[simp] theorem el117 : elemOf Tryd.prog 117 = none := by kernel_rfl
@[simp] theorem ti118 : tiOf Tryd.prog 118 = some ⟨[(Value.pointer none), (Value.pointer none), (Value.pointer none), (Value.string { data := #[] })], 40, true⟩ := by kernel_rfl
@[simp] theorem st118 : stcOf Tryd.prog 118 = some [(0, 17), (1, 17), (2, 17), (3, 9)] := by kernel_rfl
@[simp] theorem el118 : elemOf Tryd.prog 118 = none := by kernel_rfl
@[simp] theorem ti122 : tiOf Tryd.prog 122 = some ⟨[Value.nilFunc], 8, false⟩ := by kernel_rfl
@[simp] theorem el122 : elemOf Tryd.prog 122 = none := by kernel_rfl
@[simp] theorem ti123 : tiOf Tryd.prog 123 = some ⟨[(Value.int IntKind.u32 0)], 4, false⟩ := by kernel_rfl
@[simp] theorem el123 : elemOf Tryd.prog 123 = none := by kernel_rfl
@[simp] theorem un123 : Tryd.prog.underlying 123 = some (TypeDesc.int IntKind.u32) := by kernel_rfl
@[simp] theorem ti124 : tiOf Tryd.prog 124 = some ⟨[(Value.int IntKind.u8 0)], 1, false⟩ := by kernel_rfl
@[simp] theorem el124 : elemOf Tryd.prog 124 = none := by kernel_rfl
@[simp] theorem un124 : Tryd.prog.underlying 124 = some (TypeDesc.int IntKind.u8) := by kernel_rfl
@[simp] theorem ti125 : tiOf Tryd.prog 125 = some ⟨[(Value.int IntKind.u8 0)], 1, false⟩ := by kernel_rfl
@[simp] theorem el125 : elemOf Tryd.prog 125 = none := by kernel_rfl
@[simp] theorem un125 : Tryd.prog.underlying 125 = some (TypeDesc.int IntKind.u8) := by kernel_rfl
@[simp] theorem ti126 : tiOf Tryd.prog 126 = some ⟨[Value.nilFunc], 8, false⟩ := by kernel_rfl
@[simp] theorem el126 : elemOf Tryd.prog 126 = none := by kernel_rfl
@[simp] theorem ti127 : tiOf Tryd.prog 127 = some ⟨[(Value.pointer none)], 8, false⟩ := by kernel_rfl
@[simp] theorem el127 : elemOf Tryd.prog 127 = none := by kernel_rfl
@[simp] theorem ti128 : tiOf Tryd.prog 128 = some ⟨[(Value.int IntKind.i32 0)], 4, false⟩ := by kernel_rfl
@[simp] theorem el128 : elemOf Tryd.prog 128 = none := by kernel_rfl
@[simp] theorem un128 : Tryd.prog.underlying 128 = some (TypeDesc.int IntKind.i32) := by kernel_rfl
@[simp] theorem ti129 : tiOf Tryd.prog 129 = some ⟨[(Value.int IntKind.i32 0)], 4, false⟩ := by kernel_rfl
@[simp] theorem el129 : elemOf Tryd.prog 129 = none := by kernel_rfl
@[simp] theorem un129 : Tryd.prog.underlying 129 = some (TypeDesc.int IntKind.i32) := by kernel_rfl
@[simp] theorem ti130 : tiOf Tryd.prog 130 = some ⟨[(Value.int IntKind.u64 0), (Value.int IntKind.u64 0), (Value.int IntKind.u32 0), (Value.int IntKind.u8 0), (Value.int IntKind.u8 0), (Value.int IntKind.u8 0), (Value.int IntKind.u8 0), Value.nilFunc, (Value.pointer none), (Value.int IntKind.i32 0), (Value.int IntKind.i32 0)], 48, true⟩ := by kernel_rfl
@[simp] theorem st130 : stcOf Tryd.prog 130 = some [(0, 12), (1, 12), (2, 123), (3, 124), (4, 5), (5, 5), (6, 125), (7, 126), (8, 127), (9, 128), (10, 129)] := by kernel_rfl
@[simp] theorem el130 : elemOf Tryd.prog 130 = none := by kernel_rfl
@[simp] theorem ti131 : tiOf Tryd.prog 131 = some ⟨[(Value.int IntKind.u64 0), (Value.int IntKind.u64 0), (Value.int IntKind.u32 0), (Value.int IntKind.u8 0), (Value.int IntKind.u8 0), (Value.int IntKind.u8 0), (Value.int IntKind.u8 0), Value.nilFunc, (Value.pointer none), (Value.int IntKind.i32 0), (Value.int IntKind.i32 0)], 48, true⟩ := by kernel_rfl
@[simp] theorem st131 : stcOf Tryd.prog 131 = some [(0, 12), (1, 12), (2, 123), (3, 124), (4, 5), (5, 5), (6, 125), (7, 126), (8, 127), (9, 128), (10, 129)] := by kernel_rfl
@[simp] theorem el131 : elemOf Tryd.prog 131 = none := by kernel_rfl
@[simp] theorem ti132 : tiOf Tryd.prog 132 = some ⟨[(Value.pointer none)], 8, false⟩ := by kernel_rfl
@[simp] theorem el132 : elemOf Tryd.prog 132 = none := by kernel_rfl
end Go.Ew
end
section
/- The trees of layer 20, as plain data, and as they lie in memory. -/
open Go Go.Proofs Go.Ew
namespace Go.Ew
inductive Expr where
  | mk (kind width bits : Int) (name : ByteArray) (op : Int) (sub : List Expr)
mutual
def encE : Expr → List PV
  | .mk k w b nm op sub => [.v (.int .u8 k), .v (.int .i64 w), .v (.int .u64 b), .v (.string nm), .v (.int .u8 op), .sl 6 (encEs sub)]
def encEs : List Expr → List (List PV)
  | [] => []
  | x :: xs => encE x :: encEs xs
end
theorem encEs_map : ∀ (l : List Expr), encEs l = l.map encE
  | [] => rfl
  | x :: xs => by simp [encEs, encEs_map xs]
theorem encEs_len (l : List Expr) : (encEs l).length = l.length := by simp [encEs_map]
theorem encE_len (x : Expr) : (encE x).length = 6 := by cases x; simp [encE]
theorem encE_nv (x : Expr) : allP (encE x) = true := by cases x; simp [encE, allP, PV.nv]
theorem encE_take (x : Expr) : List.take 6 (List.map CV.c (encE x)) = List.map CV.c (encE x) := List.take_of_length_le (by simp [encE_len])
theorem encEs_at (l : List Expr) (i : Nat) (h : i < (encEs l).length) : (encEs l)[i] = encE (l[i]'(by rw [← encEs_len]; exact h)) := by simp [encEs_map]

structure Par where
  name : ByteArray
  width : Int
def encP (p : Par) : List PV := [.v (.string p.name), .v (.int .i64 p.width)]
def encPs (l : List Par) : List (List PV) := l.map encP
theorem encPs_len (l : List Par) : (encPs l).length = l.length := by simp [encPs]
theorem encPs_at (l : List Par) (i : Nat) (h : i < (encPs l).length) : (encPs l)[i] = encP (l[i]'(by rw [← encPs_len]; exact h)) := by simp [encPs]
structure Arr where
  name : ByteArray
  width : Int
  len : Int
def encA (p : Arr) : List PV := [.v (.string p.name), .v (.int .i64 p.width), .v (.int .i64 p.len)]
def encAs (l : List Arr) : List (List PV) := l.map encA
theorem encAs_len (l : List Arr) : (encAs l).length = l.length := by simp [encAs]
theorem encAs_at (l : List Arr) (i : Nat) (h : i < (encAs l).length) : (encAs l)[i] = encA (l[i]'(by rw [← encAs_len]; exact h)) := by simp [encAs]
inductive Stm where
  | mk (kind : Int) (name func : ByteArray) (width : Int) (exprs : List Expr) (body els : List Stm)
mutual
def encS : Stm → List PV
  | .mk k nm f w es b e => [.v (.int .u8 k), .v (.string nm), .v (.string f), .v (.int .i64 w), .sl 6 (encEs es), .sl 7 (encSs b), .sl 7 (encSs e)]
def encSs : List Stm → List (List PV)
  | [] => []
  | x :: xs => encS x :: encSs xs
end
theorem encSs_map : ∀ (l : List Stm), encSs l = l.map encS
  | [] => rfl
  | x :: xs => by simp [encSs, encSs_map xs]
theorem encSs_len (l : List Stm) : (encSs l).length = l.length := by simp [encSs_map]
theorem encS_len (x : Stm) : (encS x).length = 7 := by cases x; simp [encS]
theorem encS_nv (x : Stm) : allP (encS x) = true := by cases x; simp [encS, allP, PV.nv]
theorem encS_take (x : Stm) : List.take 7 (List.map CV.c (encS x)) = List.map CV.c (encS x) := List.take_of_length_le (by simp [encS_len])
theorem encSs_at (l : List Stm) (i : Nat) (h : i < (encSs l).length) : (encSs l)[i] = encS (l[i]'(by rw [← encSs_len]; exact h)) := by simp [encSs_map]
structure Fun where
  name : ByteArray
  params : List Par
  result : Int
  body : List Stm
def encF (f : Fun) : List PV := [.v (.string f.name), .sl 2 (encPs f.params), .v (.int .i64 f.result), .sl 7 (encSs f.body)]
def encFs (l : List Fun) : List (List PV) := l.map encF
theorem encFs_len (l : List Fun) : (encFs l).length = l.length := by simp [encFs]
theorem encFs_at (l : List Fun) (i : Nat) (h : i < (encFs l).length) : (encFs l)[i] = encF (l[i]'(by rw [← encFs_len]; exact h)) := by simp [encFs]
structure Pro where
  arrays : List Arr
  funcs : List Fun
abbrev vE (x : Expr) : TV := .u (.agg ((encE x).map CV.c))
abbrev vEs (x : List Expr) : TV := .p (.sl 6 (encEs x))
abbrev vS (x : Stm) : TV := .u (.agg ((encS x).map CV.c))
abbrev vSs (x : List Stm) : TV := .p (.sl 7 (encSs x))
abbrev vPar (x : Par) : TV := .u (.agg ((encP x).map CV.c))
abbrev vPars (x : List Par) : TV := .p (.sl 2 (encPs x))
abbrev vArr (x : Arr) : TV := .u (.agg ((encA x).map CV.c))
abbrev vFun (x : Fun) : TV := .u (.agg ((encF x).map CV.c))
abbrev vPro (x : Pro) : TV := .u (.agg [.c (.sl 3 (encAs x.arrays)), .c (.sl 4 (encFs x.funcs))])
abbrev vI (n : Int) : TV := .val (.int .i64 n)
abbrev vB (n : Bool) : TV := .val (.bool n)
abbrev vT (n : ByteArray) : TV := .val (.string n)
/-- The language's own words, where the reference keeps them. -/
def wordsL : List ByteArray := [⟨#[97, 114, 114, 97, 121]⟩, ⟨#[102, 117, 110, 99]⟩, ⟨#[118, 97, 114]⟩, ⟨#[105, 102]⟩, ⟨#[101, 108, 115, 101]⟩, ⟨#[119, 104, 105, 108, 101]⟩, ⟨#[98, 114, 101, 97, 107]⟩, ⟨#[116, 101, 108, 108]⟩, ⟨#[114, 101, 116, 117, 114, 110]⟩, ⟨#[115, 105, 103, 110, 101, 100]⟩, ⟨#[98, 105, 116]⟩, ⟨#[98, 121, 116, 101]⟩, ⟨#[104, 97, 108, 102]⟩, ⟨#[119, 111, 114, 100]⟩]
def encTs (l : List ByteArray) : List (List PV) := l.map fun s => [.v (.string s)]
theorem encTs_len (l : List ByteArray) : (encTs l).length = l.length := by simp [encTs]
theorem encTs_at (l : List ByteArray) (i : Nat) (h : i < (encTs l).length) : (encTs l)[i] = [.v (.string (l[i]'(by rw [← encTs_len]; exact h)))] := by simp [encTs]
def GG (g : Nat) : Option (List PV) := if g = 0 then some [.sl 1 (encTs wordsL)] else none
end Go.Ew
end
section
/- Functions of the seat: sizes of expressions, widths, names. -/
open Go Go.Proofs Go.Ew
namespace Go.Ew
mutual
def nodes : Expr → Nat
  | .mk _ _ _ _ _ sub => nodesL sub + 1
def nodesL : List Expr → Nat
  | [] => 0
  | x :: xs => nodes x + nodesL xs
end
mutual
def deep : Expr → Nat
  | .mk _ _ _ _ _ sub => deepL sub + 1
def deepL : List Expr → Nat
  | [] => 0
  | x :: xs => max (deep x) (deepL xs)
end
theorem nodesL_len : ∀ (l : List Expr), l.length ≤ nodesL l
  | [] => by simp [nodesL]
  | x :: xs => by have := nodesL_len xs; cases x; simp [nodesL, nodes]; omega
theorem nodes_le : ∀ {l : List Expr} {x : Expr}, x ∈ l → nodes x ≤ nodesL l
  | y :: ys, x, h => by
    rcases List.mem_cons.1 h with rfl | h
    · simp [nodesL]
    · have := nodes_le h; simp [nodesL]; omega
mutual
theorem deep_le : ∀ (x : Expr), deep x ≤ nodes x
  | .mk _ _ _ _ _ sub => by have := deepL_le sub; simp only [deep, nodes]; omega
theorem deepL_le : ∀ (l : List Expr), deepL l ≤ nodesL l
  | [] => by simp [deepL]
  | x :: xs => by have := deep_le x; have := deepL_le xs; simp only [deepL, nodesL]; omega
end
def largeX (x : Expr) : Bool := decide (50 < nodes x) || decide (14 < deep x)
attribute [local simp] Cd_skip Cd_label Cd_seq Ct_false Br_notc Br_true Br_false Cd_cond Cd_block Cd_exit Cd_ret Cd_region Nx_code Nx_block Nx_ops Nx_plan  Nx_fin Nx_fin' Ex_code_exit Ex_code_ret Ex_block_exit Ex_block_ret Ex_round_exit Ex_round_ret Ex_fin_ret Ex_fin_ret' Pn_code Pn_block Pn_ops Pn_plan Pn_round Pn_fin Os_nil Os_cons gK_some Gt_some Gt_nil Gt_cons run_code run_op run_skip O1_eq Pl_done Pl_stop Pl_first Pl_alt cK_some qK_some asCall asPan actK_some panOf_some condK_some map_re_c map_kill_c map_keep_c map_frz_c re_cc kill_cc keep_cc frz_cc leCs_refl finA finR idl headOf allB
attribute [local simp] wantedA act quiet opd opg TV.acc imp ofConst St.get St.put St.putG orElse one1 one2 binA unA convA idxA strLen maxA minA TV.flat TV.int TV.bool TV.cells UV.cells CV.els TV.els viewOf PV.nv CV.nv peekC_eq peekB peekG peekH peekP_eq peekPB allP allNv allPs allNv_c allNv_append allP_append allPs_append rowsNv_eq at_ cellAt PV.down PV.elem readAt loadOp bump fieldAddrOp fieldOp indexAddrOp extractOp nilCheckOp lenOp boundOf sliceOp fillCells buildOp pickOp Tab.fld Tab.place tabOf_ti tabOf_mapT tabOf_stc tabOf_arr tabOf_elem tabOf_glob mk busy TV.isPtr TV.isMap keyOK keysOf lookupOp mapOf lookC_some lookC_none findK_nil findK_yes findK_no eqKey_lit eqKey_int mapLen_eq look lay del
attribute [local simp] makeMapOp updateOp insK_some insK_none insC_some insC_none frzMp allocOp boxOp storeOp killOf writeAt moves grabOf takeAt putAt PV.put setCell CV.isView CV.strip CV.stripP strip_cc map_strip_c any_view_c any_view_cc mapM_strip_eq stripL stripL_c mapM_strip_cc frzR_frz frzE_frz stripL_append Ew.newObj newReg rowsOf stripRows movesR buildSliceOp makeSliceOp srcOf baseOf appendOp room killM St.kill Kl.b Kl.h Cap.hit TV.kill UV.kill CV.kill MC.kill capOf capsOf plainCaps mkClo capTV calleeOf panArg resV resT resUs
attribute [local simp] toNew toOld view TV.re UV.re CV.re MC.re Cap.re caps_re leT leU leC leCs leMs leM leTs St.le St.re keysOK  roots_p map_re_p map_re_p' roots_c roots_cc shownOf shownBy pairsOf number deeper addAll MC.live TV.roots CV.roots MC.roots Cap.roots callIs numsOK liveAll start List.range_succ callSt afterMem newPart_nil newPart_cons oldPart_eq oldGo back isKey stays inRange aliveO aliveM MC.isMap aliveR aliveP MC.isObj MC.isReg Cap.alive CV.keep UV.keep TV.keep MC.keep span St.frz frzM TV.frz UV.frz CV.frz MC.frz frzO frzC Cap.frz PV.frz frzE frzR
attribute [local simp] encEs_len encE_len encE_nv encE_take encEs_at
theorem f42 : ∀ (n : Nat) (x : Expr), nodes x ≤ n → nodes x < 1000000 → Meets Tryd.prog (tabOf Tryd.prog GG) 42 [vE x] [] (.ret (vI (nodes x))) []
  | 0, x, h, _ => by cases x; simp [nodes] at h
  | n + 1, .mk k w b nm op sub, hn, hx => by
    simp only [nodes] at hn hx
    refine meets_of (tabOf_ok _ _) [] Tryd.f42 21 [.tmp 2] (by kernel_rfl) (by kernel_rfl) rfl rfl rfl rfl false ?_
    simp [encE]
    refine Cd_for (fun p : Nat × Nat => ⟨[.bot, .a (.ptr 1 0 []), .bot, vI p.2, vI p.1, .bot, .bot, .bot, .bot, .bot, .bot, .bot, .bot, .bot, .bot, .bot, .bot, .bot, .bot, .bot, .bot], [(1, .obj [.bot, .bot, .bot, .bot, .bot, .c (.sl 6 (encEs sub))])]⟩)
      (fun p => p.1 ≤ sub.length ∧ p.2 + nodesL (sub.drop p.1) = nodesL sub + 1) (fun p => sub.length - p.1) (0, 1) ⟨by simp, by simp; omega⟩ (Imp.le (by simp)) ?_
    intro x hx
    obtain ⟨i, acc⟩ := x
    have hi := hx.1
    have hw := hx.2
    simp at hi hw
    simp
    refine Br_intro (fun h => ?_) (fun h => ?_)
    · simp at h
      simp [h]
      have hd : sub.drop i = sub[i] :: sub.drop (i + 1) := List.drop_eq_getElem_cons h
      rw [hd, nodesL] at hw
      have hlen : sub.length ≤ nodesL sub := nodesL_len sub
      have hb := nodes_le (List.getElem_mem h)
      refine Call_pure (f42 n sub[i] (by omega) (by omega)) ?_
      have h1 : IntKind.i64.wrap ((acc : Int) + (nodes sub[i] : Int)) = ((acc + nodes sub[i] : Nat) : Int) := wrap64 (by omega) ⟨by omega, by omega⟩
      have h2 : IntKind.i64.wrap ((i : Int) + 1) = ((i + 1 : Nat) : Int) := wrap64 (by omega) ⟨by omega, by omega⟩
      simp [h1, h2]
      exact Nx_for (i + 1, acc + nodes sub[i]) ⟨by omega, by simp; omega⟩ (by simp; omega) (Imp.le (by simp))
    · simp at h
      simp [h]
      have : sub.drop i = [] := by simp; omega
      rw [this, nodesL] at hw
      simp [nodes]
      omega
theorem f43 : ∀ (n : Nat) (x : Expr), nodes x ≤ n → nodes x < 1000000 → Meets Tryd.prog (tabOf Tryd.prog GG) 43 [vE x] [] (.ret (vI (deep x))) []
  | 0, x, h, _ => by cases x; simp [nodes] at h
  | n + 1, .mk k w b nm op sub, hn, hx => by
    simp only [nodes] at hn hx
    refine meets_of (tabOf_ok _ _) [] Tryd.f43 22 [.tmp 2] (by kernel_rfl) (by kernel_rfl) rfl rfl rfl rfl false ?_
    simp [encE]
    refine Cd_for (fun p : Nat × Nat => ⟨[.bot, .a (.ptr 1 0 []), .bot, vI p.2, vI p.1, .bot, .bot, .bot, .bot, .bot, .bot, .bot, .bot, .bot, .bot, .bot, .bot, .bot, .bot, .bot, .bot, .bot], [(1, .obj [.bot, .bot, .bot, .bot, .bot, .c (.sl 6 (encEs sub))])]⟩)
      (fun p => p.1 ≤ sub.length ∧ max p.2 (deepL (sub.drop p.1)) = deepL sub) (fun p => sub.length - p.1) (0, 0) ⟨by simp, by simp⟩ (Imp.le (by simp)) ?_
    intro x hx
    obtain ⟨i, acc⟩ := x
    have hi := hx.1
    have hw := hx.2
    simp at hi hw
    simp
    refine Br_intro (fun h => ?_) (fun h => ?_)
    · simp at h
      simp [h]
      have hd : sub.drop i = sub[i] :: sub.drop (i + 1) := List.drop_eq_getElem_cons h
      rw [hd, deepL] at hw
      have hlen : sub.length ≤ nodesL sub := nodesL_len sub
      have hb := nodes_le (List.getElem_mem h)
      refine Call_pure (f43 n sub[i] (by omega) (by omega)) ?_
      have h2 : IntKind.i64.wrap ((i : Int) + 1) = ((i + 1 : Nat) : Int) := wrap64 (by omega) ⟨by omega, by omega⟩
      have h1 : (if (acc : Int) < (deep sub[i] : Int) then (deep sub[i] : Int) else (acc : Int)) = ((max acc (deep sub[i]) : Nat) : Int) := by split <;> omega
      simp [h1, h2]
      exact Nx_for (i + 1, max acc (deep sub[i])) ⟨by omega, by simp; omega⟩ (by simp; omega) (Imp.le (by simp; omega))
    · simp at h
      have : sub.drop i = [] := by simp; omega
      rw [this, deepL] at hw
      have hdl := deepL_le sub
      have h2 : IntKind.i64.wrap ((acc : Int) + 1) = ((acc + 1 : Nat) : Int) := wrap64 (by omega) ⟨by omega, by omega⟩
      simp [h, h2, deep]
      omega
theorem f20 (x : Expr) (hx : nodes x < 1000000) : Meets Tryd.prog (tabOf Tryd.prog GG) 20 [vE x] [] (.ret (vB (largeX x))) [] := by
  refine meets_of (tabOf_ok _ _) [] Tryd.f20 11 [.tmp 2] (by kernel_rfl) (by kernel_rfl) rfl rfl rfl rfl false ?_
  have e1 : decide ((50 : Int) < (nodes x : Int)) = decide (50 < nodes x) := by congr 1; simp; omega
  have e2 : decide ((14 : Int) < (deep x : Int)) = decide (14 < deep x) := by congr 1; simp; omega
  simp
  refine Call_pure (f42 _ x (Nat.le_refl _) hx) ?_
  simp
  refine Br_call (.one (.c (.v (.int .i64 (deep x))))) (by rfl) (by rfl) (fun _ => f43 _ x (Nat.le_refl _) hx) (fun h => by simp [h]) ?_
  simp [largeX, ← e1, ← e2]
theorem f34 (n : Nat) : ∀ (x : Expr), nodes x ≤ n → nodes x < 1000000 → Meets Tryd.prog (tabOf Tryd.prog GG) 34 [vE x] [] (.ret (.tup [.one (.c (.v (.int .i64 (nodes x)))), .one (.c (.v (.int .i64 (deep x))))])) []
 := by
  induction n with
  | zero => intro x h _; cases x; simp [nodes] at h
  | succ n ih =>
    intro x hn hx
    obtain ⟨k, w, b, nm, op, sub⟩ := x
    simp only [nodes] at hn hx
    refine meets_of (tabOf_ok _ _) [] Tryd.f34 31 [.tmp 2, .tmp 3] (by kernel_rfl) (by kernel_rfl) rfl rfl rfl rfl false ?_
    simp [encE]
    refine Cd_for (fun p : Nat × Nat × Nat => ⟨[.bot, .bot, vI p.2.1, vI p.2.2, .bot, .bot, .bot, .bot, .bot, vEs sub, vI sub.length, vI p.1, .bot, .bot, .bot, .bot, .bot, .bot, .bot, .bot, .bot, .bot, .bot, .bot, .bot, .bot, .bot, .bot, .bot, .bot, .bot], []⟩)
      (fun p => p.1 ≤ sub.length ∧ p.2.1 + nodesL (sub.drop p.1) = nodesL sub ∧ max p.2.2 (deepL (sub.drop p.1)) = deepL sub) (fun p => sub.length - p.1) (0, 0, 0) ⟨by simp, by simp, by simp⟩ (Imp.le (by simp)) ?_
    rintro ⟨i, acc, dp⟩ ⟨hi, hw, hv⟩
    simp at hi hw hv
    simp
    refine Br_intro (fun h => ?_) (fun h => ?_)
    · simp at h
      simp [h]
      have hd : sub.drop i = sub[i] :: sub.drop (i + 1) := List.drop_eq_getElem_cons h
      rw [hd, nodesL] at hw
      rw [hd, deepL] at hv
      have hlen : sub.length ≤ nodesL sub := nodesL_len sub
      have hb := nodes_le (List.getElem_mem h)
      refine Call_pure (ih sub[i] (by omega) (by omega)) ?_
      have h1 : IntKind.i64.wrap ((acc : Int) + (nodes sub[i] : Int)) = ((acc + nodes sub[i] : Nat) : Int) := wrap64 (by omega) ⟨by omega, by omega⟩
      have h2 : IntKind.i64.wrap ((i : Int) + 1) = ((i + 1 : Nat) : Int) := wrap64 (by omega) ⟨by omega, by omega⟩
      have h3 : (if (dp : Int) < (deep sub[i] : Int) then (deep sub[i] : Int) else (dp : Int)) = ((max dp (deep sub[i]) : Nat) : Int) := by split <;> omega
      simp [h1, h2, h3]
      exact Nx_for (i + 1, acc + nodes sub[i], max dp (deep sub[i])) ⟨by omega, by simp; omega, by simp; omega⟩ (by simp; omega) (Imp.le (by simp; omega))
    · simp at h
      have : sub.drop i = [] := by simp; omega
      rw [this, nodesL] at hw
      rw [this, deepL] at hv
      have hdl := deepL_le sub
      have h1 : IntKind.i64.wrap ((acc : Int) + 1) = ((acc + 1 : Nat) : Int) := wrap64 (by omega) ⟨by omega, by omega⟩
      have h2 : IntKind.i64.wrap ((dp : Int) + 1) = ((dp + 1 : Nat) : Int) := wrap64 (by omega) ⟨by omega, by omega⟩
      simp [h, h1, h2, deep, nodes]
      omega
theorem f17 (x : Expr) (hx : nodes x < 1000000) : Meets Tryd.prog (tabOf Tryd.prog GG) 17 [vE x] [] (.ret (vB (largeX x))) [] := by
  refine meets_of (tabOf_ok _ _) [] Tryd.f17 16 [.tmp 2] (by kernel_rfl) (by kernel_rfl) rfl rfl rfl rfl false ?_
  have e1 : decide ((50 : Int) < (nodes x : Int)) = decide (50 < nodes x) := by congr 1; simp; omega
  have e2 : decide ((14 : Int) < (deep x : Int)) = decide (14 < deep x) := by congr 1; simp; omega
  simp
  refine Call_pure (f34 _ x (Nat.le_refl _) hx) ?_
  simp [largeX, ← e1, ← e2]
def wideX (w : Int) : Bool := decide (1 ≤ w) && decide (w ≤ 64)
theorem f64 (w : Int) : Meets Tryd.prog (tabOf Tryd.prog GG) 64 [vI w] [] (.ret (vB (wideX w))) [] := by
  refine meets_of (tabOf_ok _ _) [] Tryd.f64 9 [.tmp 2] (by kernel_rfl) (by kernel_rfl) rfl rfl rfl rfl false ?_
  simp [wideX]
theorem f80 (b : Bool) : Meets Tryd.prog (tabOf Tryd.prog GG) 80 [vB b] [] (.ret (.val (.int .i64 (if b then 0 else 14)))) [] := by
  refine meets_of (tabOf_ok _ _) [] Tryd.f80 4 [.tmp 2] (by kernel_rfl) (by kernel_rfl) rfl rfl rfl rfl false ?_
  simp
  refine Br_intro (fun h => ?_) (fun h => ?_) <;> simp [h] <;> (repeat (refine Sk_go ?_; simp [h]))
theorem f44 (w : Int) : Meets Tryd.prog (tabOf Tryd.prog GG) 44 [vI w] [] (.ret (vB (decide (w = 1) || decide (w = 8) || decide (w = 16) || decide (w = 32)))) [] := by
  refine meets_of (tabOf_ok _ _) [] Tryd.f44 17 [.tmp 2] (by kernel_rfl) (by kernel_rfl) rfl rfl rfl rfl false ?_
  simp
  repeat' refine Br_intro (fun h => ?_) (fun h => ?_) <;> simp [h] <;> (repeat (refine Sk_go ?_; simp [h]))
end Go.Ew
end
section
/- Functions of the seat: searches. -/
open Go Go.Proofs Go.Ew
namespace Go.Ew
/-- The first place, or -1. -/
def ixT : List ByteArray → ByteArray → Nat → Int
  | [], _, _ => -1
  | x :: xs, v, i => if x.toList = v.toList then (i : Int) else ixT xs v (i + 1)
def hasT (l : List ByteArray) (v : ByteArray) : Bool := l.any fun x => decide (x.toList = v.toList)
theorem ixT_has : ∀ (l : List ByteArray) (v : ByteArray) (i : Nat), decide (0 ≤ ixT l v i) = hasT l v
  | [], v, i => by simp [ixT, hasT]
  | x :: xs, v, i => by
    have := ixT_has xs v (i + 1)
    by_cases h : x.toList = v.toList
    · simp [ixT, hasT, h]
    · simp only [ixT, if_neg h, this]; simp [hasT, h]
attribute [local simp] Cd_skip Cd_label Cd_seq Ct_false Br_notc Br_true Br_false Cd_cond Cd_block Cd_exit Cd_ret Cd_region Nx_code Nx_block Nx_ops Nx_plan  Nx_fin Nx_fin' Ex_code_exit Ex_code_ret Ex_block_exit Ex_block_ret Ex_round_exit Ex_round_ret Ex_fin_ret Ex_fin_ret' Pn_code Pn_block Pn_ops Pn_plan Pn_round Pn_fin Os_nil Os_cons gK_some Gt_some Gt_nil Gt_cons run_code run_op run_skip O1_eq Pl_done Pl_stop Pl_first Pl_alt cK_some qK_some asCall asPan actK_some panOf_some condK_some map_re_c map_kill_c map_keep_c map_frz_c re_cc kill_cc keep_cc frz_cc leCs_refl finA finR idl headOf allB
attribute [local simp] wantedA act quiet opd opg TV.acc imp ofConst St.get St.put St.putG orElse one1 one2 binA unA convA idxA strLen maxA minA TV.flat TV.int TV.bool TV.cells UV.cells CV.els TV.els viewOf PV.nv CV.nv peekC_eq peekB peekG peekH peekP_eq peekPB allP allNv allPs allNv_c allNv_append allP_append allPs_append rowsNv_eq at_ cellAt PV.down PV.elem readAt loadOp bump fieldAddrOp fieldOp indexAddrOp extractOp nilCheckOp lenOp boundOf sliceOp fillCells buildOp pickOp Tab.fld Tab.place tabOf_ti tabOf_mapT tabOf_stc tabOf_arr tabOf_elem tabOf_glob mk busy TV.isPtr TV.isMap keyOK keysOf lookupOp mapOf lookC_some lookC_none findK_nil findK_yes findK_no eqKey_lit eqKey_int mapLen_eq look lay del
attribute [local simp] makeMapOp updateOp insK_some insK_none insC_some insC_none frzMp allocOp boxOp storeOp killOf writeAt moves grabOf takeAt putAt PV.put setCell CV.isView CV.strip CV.stripP strip_cc map_strip_c any_view_c any_view_cc mapM_strip_eq stripL stripL_c mapM_strip_cc frzR_frz frzE_frz stripL_append Ew.newObj newReg rowsOf stripRows movesR buildSliceOp makeSliceOp srcOf baseOf appendOp room killM St.kill Kl.b Kl.h Cap.hit TV.kill UV.kill CV.kill MC.kill capOf capsOf plainCaps mkClo capTV calleeOf panArg resV resT resUs
attribute [local simp] toNew toOld view TV.re UV.re CV.re MC.re Cap.re caps_re leT leU leC leCs leMs leM leTs St.le St.re keysOK  roots_p map_re_p map_re_p' roots_c roots_cc shownOf shownBy pairsOf number deeper addAll MC.live TV.roots CV.roots MC.roots Cap.roots callIs numsOK liveAll start List.range_succ callSt afterMem newPart_nil newPart_cons oldPart_eq oldGo back isKey stays inRange aliveO aliveM MC.isMap aliveR aliveP MC.isObj MC.isReg Cap.alive CV.keep UV.keep TV.keep MC.keep span St.frz frzM TV.frz UV.frz CV.frz MC.frz frzO frzC Cap.frz PV.frz frzE frzR
attribute [local simp] encTs_len encTs_at encAs_len encAs_at encFs_len encFs_at encPs_len encPs_at encA encF encP
theorem f84 (l : List ByteArray) (v : ByteArray) (hl : l.length < 1000000) : Meets Tryd.prog (tabOf Tryd.prog GG) 84 [.p (.sl 1 (encTs l)), vT v] [] (.ret (vI (ixT l v 0))) [] := by
  refine meets_of (tabOf_ok _ _) [] Tryd.f84 19 [.tmp 4] (by kernel_rfl) (by kernel_rfl) rfl rfl rfl rfl false ?_
  simp
  refine Cd_for (fun i : Nat => ⟨[.p (.sl 1 (encTs l)), vT v, .bot, .bot, .bot, .bot, .bot, vI l.length, vI i, .bot, .bot, .bot, .bot, .bot, .bot, .bot, .bot, .bot, .bot], []⟩)
    (fun i => i ≤ l.length ∧ ixT (l.drop i) v i = ixT l v 0) (fun i => l.length - i) 0 ⟨by simp, by simp⟩ (Imp.le (by simp)) ?_
  rintro i ⟨hi, hw⟩
  simp
  refine Br_intro (fun h => ?_) (fun h => ?_)
  · simp at h
    simp [h]
    have hd : l.drop i = l[i] :: l.drop (i + 1) := List.drop_eq_getElem_cons h
    rw [hd, ixT] at hw
    have h2 : IntKind.i64.wrap ((i : Int) + 1) = ((i + 1 : Nat) : Int) := wrap64 (by omega) ⟨by omega, by omega⟩
    refine Br_intro (fun h' => ?_) (fun h' => ?_)
    · simp at h'
      rw [if_pos h'.symm] at hw
      simp [h', hw]
    · simp at h'
      rw [if_neg (fun e => h' e.symm)] at hw
      simp [h', h2]
      exact Nx_for (i + 1) ⟨by omega, hw⟩ (by omega) (Imp.le (by simp))
  · simp at h
    have : l.drop i = [] := by simp; omega
    rw [this, ixT] at hw
    simp [h, ← hw]
theorem f67 (l : List ByteArray) (v : ByteArray) (hl : l.length < 1000000) : Meets Tryd.prog (tabOf Tryd.prog GG) 67 [.p (.sl 1 (encTs l)), vT v] [] (.ret (vB (hasT l v))) [] := by
  refine meets_of (tabOf_ok _ _) [] Tryd.f67 9 [.tmp 4] (by kernel_rfl) (by kernel_rfl) rfl rfl rfl rfl false ?_
  simp
  refine Call_pure (f84 l v hl) ?_
  simp [← ixT_has l v 0]
theorem f68 : Meets Tryd.prog (tabOf Tryd.prog GG) 68 [] [] (.ret (.p (.sl 1 (encTs wordsL)))) [] := by
  refine meets_of (tabOf_ok _ _) [] Tryd.f68 2 [.tmp 0] (by kernel_rfl) (by kernel_rfl) rfl rfl rfl rfl true ?_
  simp
  refine finish_imp (Imp.frz 1) (finish_to [] keysOK_nil ?_)
  simp [encTs, wordsL]
theorem f74 (v : ByteArray) : Meets Tryd.prog (tabOf Tryd.prog GG) 74 [vT v] [] (.ret (vB (hasT wordsL v))) [] := by
  refine meets_of (tabOf_ok _ _) [] Tryd.f74 16 [.tmp 2] (by kernel_rfl) (by kernel_rfl) rfl rfl rfl rfl false ?_
  simp
  refine Cd_for (fun i : Nat => ⟨[vT v, .bot, .bot, vI i, .bot, .bot, .bot, .bot, .bot, .bot, .bot, .bot, .bot, .bot, .bot, .bot], []⟩)
    (fun i => i ≤ wordsL.length ∧ hasT (wordsL.drop i) v = hasT wordsL v) (fun i => wordsL.length - i) 0 ⟨by simp, by simp⟩ (Imp.le (by simp)) ?_
  rintro i ⟨hi, hw⟩
  have h14 : wordsL.length = 14 := rfl
  simp [GG]
  refine Br_intro (fun h => ?_) (fun h => ?_)
  · simp at h
    simp [h, GG]
    have hd : wordsL.drop i = wordsL[i] :: wordsL.drop (i + 1) := List.drop_eq_getElem_cons h
    rw [hd] at hw
    have h2 : IntKind.i64.wrap ((i : Int) + 1) = ((i + 1 : Nat) : Int) := wrap64 (by omega) ⟨by omega, by omega⟩
    refine Br_intro (fun h' => ?_) (fun h' => ?_)
    · simp at h'
      have h3 : hasT wordsL v = true := by rw [← hw]; simp only [hasT, List.any_cons, h', decide_true, Bool.true_or]
      simp [h', h3]
    · simp at h'
      simp only [hasT, List.any_cons, h', decide_false, Bool.false_or] at hw
      simp [h', h2]
      exact Nx_for (i + 1) ⟨by omega, hw⟩ (by omega) (Imp.le (by simp))
  · simp at h
    have : wordsL.drop i = [] := by simp; omega
    rw [this] at hw
    simp [hasT] at hw
    simp [h, hasT]
    exact hw
theorem f49 (p : Pro) (v : ByteArray) (hl : p.arrays.length < 1000000) : Meets Tryd.prog (tabOf Tryd.prog GG) 49 [vPro p, vT v] [] (.ret (vI (ixT (p.arrays.map Arr.name) v 0))) [] := by
  refine meets_of (tabOf_ok _ _) [] Tryd.f49 22 [.tmp 4] (by kernel_rfl) (by kernel_rfl) rfl rfl rfl rfl false ?_
  simp
  refine Cd_for (fun i : Nat => ⟨[.bot, vT v, .a (.ptr 2 0 []), .bot, .bot, vI i, .bot, .bot, .bot, .bot, .bot, .bot, .bot, .bot, .bot, .bot, .bot, .bot, .bot, .bot, .bot, .bot], [(2, .obj [.c (.sl 3 (encAs p.arrays)), .bot])]⟩)
    (fun i => i ≤ p.arrays.length ∧ ixT ((p.arrays.drop i).map Arr.name) v i = ixT (p.arrays.map Arr.name) v 0) (fun i => p.arrays.length - i) 0 ⟨by simp, by simp⟩ (Imp.le (by simp)) ?_
  rintro i ⟨hi, hw⟩
  simp
  refine Br_intro (fun h => ?_) (fun h => ?_)
  · simp at h
    simp [h]
    have hd : p.arrays.drop i = p.arrays[i] :: p.arrays.drop (i + 1) := List.drop_eq_getElem_cons h
    rw [hd, List.map_cons, ixT] at hw
    have h2 : IntKind.i64.wrap ((i : Int) + 1) = ((i + 1 : Nat) : Int) := wrap64 (by omega) ⟨by omega, by omega⟩
    refine Br_intro (fun h' => ?_) (fun h' => ?_)
    · simp at h'
      rw [if_pos h'] at hw
      simp [h', hw]
    · simp at h'
      rw [if_neg h'] at hw
      simp [h', h2]
      exact Nx_for (i + 1) ⟨by omega, by simpa using hw⟩ (by omega) (Imp.le (by simp))
  · simp at h
    have : p.arrays.drop i = [] := by simp; omega
    rw [this, List.map_nil, ixT] at hw
    simp [h, ← hw]
theorem f90 (p : Pro) (v : ByteArray) (hl : p.funcs.length < 1000000) : Meets Tryd.prog (tabOf Tryd.prog GG) 90 [vPro p, vT v] [] (.ret (vI (ixT (p.funcs.map Fun.name) v 0))) [] := by
  refine meets_of (tabOf_ok _ _) [] Tryd.f90 22 [.tmp 4] (by kernel_rfl) (by kernel_rfl) rfl rfl rfl rfl false ?_
  simp
  refine Cd_for (fun i : Nat => ⟨[.bot, vT v, .a (.ptr 2 0 []), .bot, .bot, vI i, .bot, .bot, .bot, .bot, .bot, .bot, .bot, .bot, .bot, .bot, .bot, .bot, .bot, .bot, .bot, .bot], [(2, .obj [.bot, .c (.sl 4 (encFs p.funcs))])]⟩)
    (fun i => i ≤ p.funcs.length ∧ ixT ((p.funcs.drop i).map Fun.name) v i = ixT (p.funcs.map Fun.name) v 0) (fun i => p.funcs.length - i) 0 ⟨by simp, by simp⟩ (Imp.le (by simp)) ?_
  rintro i ⟨hi, hw⟩
  simp
  refine Br_intro (fun h => ?_) (fun h => ?_)
  · simp at h
    simp [h]
    have hd : p.funcs.drop i = p.funcs[i] :: p.funcs.drop (i + 1) := List.drop_eq_getElem_cons h
    rw [hd, List.map_cons, ixT] at hw
    have h2 : IntKind.i64.wrap ((i : Int) + 1) = ((i + 1 : Nat) : Int) := wrap64 (by omega) ⟨by omega, by omega⟩
    refine Br_intro (fun h' => ?_) (fun h' => ?_)
    · simp at h'
      rw [if_pos h'] at hw
      simp [h', hw]
    · simp at h'
      rw [if_neg h'] at hw
      simp [h', h2]
      exact Nx_for (i + 1) ⟨by omega, by simpa using hw⟩ (by omega) (Imp.le (by simp))
  · simp at h
    have : p.funcs.drop i = [] := by simp; omega
    rw [this, List.map_nil, ixT] at hw
    simp [h, ← hw]
end Go.Ew
end
section
/- Functions of the seat: names. -/
open Go Go.Proofs Go.Ew
namespace Go.Ew
def letterB (c : Int) : Bool := (decide (97 ≤ c) && decide (c ≤ 122)) || (decide (65 ≤ c) && decide (c ≤ 90))
def chOk (i : Nat) (c : Int) : Bool := letterB c || (decide (i ≠ 0) && (decide (c = 95) || (decide (48 ≤ c) && decide (c ≤ 57))))
def restOk : List UInt8 → Nat → Bool
  | [], _ => true
  | c :: cs, i => chOk i (c.toNat : Int) && restOk cs (i + 1)
def nameOk (s : ByteArray) : Bool := decide (1 ≤ s.size) && decide (s.size ≤ 24) && restOk s.data.toList 0
theorem dropB (s : ByteArray) (i : Nat) (h : i < s.size) : s.data.toList.drop i = s[i] :: s.data.toList.drop (i + 1) := by
  rw [List.drop_eq_getElem_cons (by simpa using h)]
  rfl
attribute [local simp] Cd_skip Cd_label Cd_seq Ct_false Br_notc Br_true Br_false Cd_cond Cd_block Cd_exit Cd_ret Cd_region Nx_code Nx_block Nx_ops Nx_plan  Nx_fin Nx_fin' Ex_code_exit Ex_code_ret Ex_block_exit Ex_block_ret Ex_round_exit Ex_round_ret Ex_fin_ret Ex_fin_ret' Pn_code Pn_block Pn_ops Pn_plan Pn_round Pn_fin Os_nil Os_cons gK_some Gt_some Gt_nil Gt_cons run_code run_op run_skip O1_eq Pl_done Pl_stop Pl_first Pl_alt cK_some qK_some asCall asPan actK_some panOf_some condK_some map_re_c map_kill_c map_keep_c map_frz_c re_cc kill_cc keep_cc frz_cc leCs_refl finA finR idl headOf allB
attribute [local simp] wantedA act quiet opd opg TV.acc imp ofConst St.get St.put St.putG orElse one1 one2 binA unA convA idxA strLen maxA minA TV.flat TV.int TV.bool TV.cells UV.cells CV.els TV.els viewOf PV.nv CV.nv peekC_eq peekB peekG peekH peekP_eq peekPB allP allNv allPs allNv_c allNv_append allP_append allPs_append rowsNv_eq at_ cellAt PV.down PV.elem readAt loadOp bump fieldAddrOp fieldOp indexAddrOp extractOp nilCheckOp lenOp boundOf sliceOp fillCells buildOp pickOp Tab.fld Tab.place tabOf_ti tabOf_mapT tabOf_stc tabOf_arr tabOf_elem tabOf_glob mk busy TV.isPtr TV.isMap keyOK keysOf lookupOp mapOf lookC_some lookC_none findK_nil findK_yes findK_no eqKey_lit eqKey_int mapLen_eq look lay del
attribute [local simp] makeMapOp updateOp insK_some insK_none insC_some insC_none frzMp allocOp boxOp storeOp killOf writeAt moves grabOf takeAt putAt PV.put setCell CV.isView CV.strip CV.stripP strip_cc map_strip_c any_view_c any_view_cc mapM_strip_eq stripL stripL_c mapM_strip_cc frzR_frz frzE_frz stripL_append Ew.newObj newReg rowsOf stripRows movesR buildSliceOp makeSliceOp srcOf baseOf appendOp room killM St.kill Kl.b Kl.h Cap.hit TV.kill UV.kill CV.kill MC.kill capOf capsOf plainCaps mkClo capTV calleeOf panArg resV resT resUs
attribute [local simp] toNew toOld view TV.re UV.re CV.re MC.re Cap.re caps_re leT leU leC leCs leMs leM leTs St.le St.re keysOK  roots_p map_re_p map_re_p' roots_c roots_cc shownOf shownBy pairsOf number deeper addAll MC.live TV.roots CV.roots MC.roots Cap.roots callIs numsOK liveAll start List.range_succ callSt afterMem newPart_nil newPart_cons oldPart_eq oldGo back isKey stays inRange aliveO aliveM MC.isMap aliveR aliveP MC.isObj MC.isReg Cap.alive CV.keep UV.keep TV.keep MC.keep span St.frz frzM TV.frz UV.frz CV.frz MC.frz frzO frzC Cap.frz PV.frz frzE frzR
set_option maxRecDepth 8000
set_option maxHeartbeats 2000000
theorem f66 (s : ByteArray) : Meets Tryd.prog (tabOf Tryd.prog GG) 66 [vT s] [] (.ret (vB (nameOk s))) [] := by
  refine meets_of (tabOf_ok _ _) [] Tryd.f66 55 [.tmp 2] (by kernel_rfl) (by kernel_rfl) rfl rfl rfl rfl false ?_
  simp
  refine Br_intro (fun h => ?_) (fun h => ?_)
  · have h0 : s.size < 1 ∨ 24 < s.size := by
      simp at h
      omega
    simp [h, nameOk]
    omega
  have h0 : 1 ≤ s.size ∧ s.size ≤ 24 := by
    simp at h
    omega
  simp [h]
  refine Cd_for (fun i : Nat => ⟨[vT s, .bot, .bot, .bot, .bot, .bot, .bot, .bot, .bot, .bot, .bot, .bot, .bot, .bot, .bot, vI s.size, vI i, .bot, .bot, .bot, .bot, .bot, .bot, .bot, .bot, .bot, .bot, .bot, .bot, .bot, .bot, .bot, .bot, .bot, .bot, .bot, .bot, .bot, .bot, .bot, .bot, .bot, .bot, .bot, .bot, .bot, .bot, .bot, .bot, .bot, .bot, .bot, .bot, .bot, .bot], []⟩)
    (fun i => i ≤ s.size ∧ restOk (s.data.toList.drop i) i = nameOk s) (fun i => s.size - i) 0 ⟨by simp, by simp [nameOk]; omega⟩ (Imp.le (by simp)) ?_
  rintro i ⟨hi, hw⟩
  simp
  refine Br_intro (fun h => ?_) (fun h => ?_)
  · simp at h
    simp [h]
    rw [dropB s i h, restOk] at hw
    have h2 : IntKind.i64.wrap ((i : Int) + 1) = ((i + 1 : Nat) : Int) := wrap64 (by omega) ⟨by omega, by omega⟩
    generalize hc : (s[i].toNat : Int) = c at *
    clear hc
    refine Br_intro (fun h' => ?_) (fun h' => ?_) <;> simp [h', h2]
    all_goals first
      | (have hv : chOk i c = true := by
           simp only [chOk, letterB, Bool.or_eq_true, Bool.and_eq_true, decide_eq_true_eq]
           simp at h'
           omega
         rw [hv, Bool.true_and] at hw
         exact Nx_for (i + 1) ⟨by omega, hw⟩ (by omega) (Imp.le (by simp)))
      | (have hv : ¬ (chOk i c = true) := by
           simp only [chOk, letterB, Bool.or_eq_true, Bool.and_eq_true, decide_eq_true_eq]
           simp at h'
           omega
         have hv' : chOk i c = false := by simpa using hv
         rw [hv', Bool.false_and] at hw
         simp [← hw])
  · simp at h
    have : s.data.toList.drop i = [] := by simp; omega
    rw [this, restOk] at hw
    simp [h, ← hw]
theorem f73 (s : ByteArray) : Meets Tryd.prog (tabOf Tryd.prog GG) 73 [vT s] [] (.ret (vB (nameOk s))) [] := by
  refine meets_of (tabOf_ok _ _) [] Tryd.f73 58 [.tmp 2] (by kernel_rfl) (by kernel_rfl) rfl rfl rfl rfl false ?_
  simp
  refine Br_intro (fun h => ?_) (fun h => ?_)
  · have h0 : s.size < 1 ∨ 24 < s.size := by
      simp at h
      rcases h with rfl | h
      · simp
      · omega
    simp [h, nameOk]
    omega
  have h0 : 1 ≤ s.size ∧ s.size ≤ 24 := by
    simp at h
    have h5 : s.size ≠ 0 := fun e => h.1 (ByteArray.size_eq_zero_iff.1 e)
    omega
  simp [h]
  refine Cd_for (fun i : Nat => ⟨[vT s, .bot, .bot, vI i, .bot, .bot, .bot, .bot, .bot, .bot, .bot, .bot, .bot, .bot, .bot, .bot, .bot, .bot, .bot, .bot, .bot, .bot, .bot, .bot, .bot, .bot, .bot, .bot, .bot, .bot, .bot, .bot, .bot, .bot, .bot, .bot, .bot, .bot, .bot, .bot, .bot, .bot, .bot, .bot, .bot, .bot, .bot, .bot, .bot, .bot, .bot, .bot, .bot, .bot, .bot, .bot, .bot, .bot], []⟩)
    (fun i => i ≤ s.size ∧ restOk (s.data.toList.drop i) i = nameOk s) (fun i => s.size - i) 0 ⟨by simp, by simp [nameOk]; omega⟩ (Imp.le (by simp)) ?_
  rintro i ⟨hi, hw⟩
  simp
  refine Br_intro (fun h => ?_) (fun h => ?_)
  · simp at h
    simp [h]
    rw [dropB s i h, restOk] at hw
    have h2 : IntKind.i64.wrap ((i : Int) + 1) = ((i + 1 : Nat) : Int) := wrap64 (by omega) ⟨by omega, by omega⟩
    generalize hc : (s[i].toNat : Int) = c at *
    clear hc
    refine Br_intro (fun h' => ?_) (fun h' => ?_) <;> simp [h', h2]
    all_goals first
      | (have hv : chOk i c = true := by
           simp only [chOk, letterB, Bool.or_eq_true, Bool.and_eq_true, decide_eq_true_eq]
           simp at h'
           omega
         rw [hv, Bool.true_and] at hw
         exact Nx_for (i + 1) ⟨by omega, hw⟩ (by omega) (Imp.le (by simp)))
      | (have hv : ¬ (chOk i c = true) := by
           simp only [chOk, letterB, Bool.or_eq_true, Bool.and_eq_true, decide_eq_true_eq]
           simp at h'
           omega
         have hv' : chOk i c = false := by simpa using hv
         rw [hv', Bool.false_and] at hw
         simp [← hw])
  · simp at h
    have : s.data.toList.drop i = [] := by simp; omega
    rw [this, restOk] at hw
    simp [h, ← hw]
def nameX (s : ByteArray) : Bool := nameOk s && !hasT wordsL s
theorem f45 (s : ByteArray) : Meets Tryd.prog (tabOf Tryd.prog GG) 45 [vT s] [] (.ret (vB (nameX s))) [] := by
  refine meets_of (tabOf_ok _ _) [] Tryd.f45 10 [.tmp 2] (by kernel_rfl) (by kernel_rfl) rfl rfl rfl rfl false ?_
  simp
  refine Call_pure (f73 s) ?_
  simp
  refine Br_intro (fun h => ?_) (fun h => ?_) <;> simp [h] <;> (repeat (refine Sk_go ?_; simp [h]))
  · refine Call_pure (f74 s) ?_
    simp [h, nameX]
  · simp [h, nameX]
theorem f37 (s : ByteArray) : Meets Tryd.prog (tabOf Tryd.prog GG) 37 [vT s] [] (.ret (vB (nameX s))) [] := by
  refine meets_of (tabOf_ok _ _) [] Tryd.f37 11 [.tmp 2] (by kernel_rfl) (by kernel_rfl) rfl rfl rfl rfl false ?_
  simp
  refine Call_pure (f66 s) ?_
  simp
  refine Br_intro (fun h => ?_) (fun h => ?_) <;> simp [h] <;> (repeat (refine Sk_go ?_; simp [h]))
  · refine Call_pure f68 ?_
    simp [h]
    refine Call_pure (f67 wordsL s (by decide)) ?_
    simp [h, nameX]
  · simp [h, nameX]
end Go.Ew
end
