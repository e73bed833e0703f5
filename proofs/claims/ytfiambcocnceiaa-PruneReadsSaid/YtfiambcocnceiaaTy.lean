import Derived.Test.YtfiambcocnceiaaProg
import Derived.Test.YtfiambcocnceiaaE19
set_option linter.unusedVariables false
namespace Go.Proofs.Ytfiambcocnceiaa
open Go Go.E
theorem mixed : Try.prog.follows .mixedOrders = true := by kernel_rfl
theorem ti1 : TI Try.prog 1 1 false .nilFunc 8 := TI.mk' (by kernel_rfl) (by kernel_rfl) rfl
theorem ul2 : Try.prog.underlying 2 = some (.int .i64) := Try.underlying2
theorem ti2 : TI Try.prog 2 1 false (.int .i64 0) 8 := TI.mk' (by kernel_rfl) (by kernel_rfl) rfl
theorem ul3 : Try.prog.underlying 3 = some (.int .i64) := Try.underlying3
theorem ti3 : TI Try.prog 3 1 false (.int .i64 0) 8 := TI.mk' (by kernel_rfl) (by kernel_rfl) rfl
theorem ul4 : Try.prog.underlying 4 = some .bool := Try.underlying4
theorem ti4 : TI Try.prog 4 1 false (.bool false) 1 := TI.mk' (by kernel_rfl) (by kernel_rfl) rfl
theorem ul5 : Try.prog.underlying 5 = some (.int .u8) := Try.underlying5
theorem ti5 : TI Try.prog 5 1 false (.int .u8 0) 1 := TI.mk' (by kernel_rfl) (by kernel_rfl) rfl
theorem ul6 : Try.prog.underlying 6 = some (.int .u8) := Try.underlying6
theorem ti6 : TI Try.prog 6 1 false (.int .u8 0) 1 := TI.mk' (by kernel_rfl) (by kernel_rfl) rfl
theorem ti7 : TI Try.prog 7 4 true (.agg #[(.int .i64 0), (.int .i64 0), (.bool false), (.int .u8 0)]) 24 := TI.mk' (by kernel_rfl) (by kernel_rfl) rfl
theorem fld7_0 : Fld Try.prog 7 0 0 2 := Fld.mk' (by kernel_rfl)
theorem fld7_1 : Fld Try.prog 7 1 1 3 := Fld.mk' (by kernel_rfl)
theorem fld7_2 : Fld Try.prog 7 2 2 4 := Fld.mk' (by kernel_rfl)
theorem fld7_3 : Fld Try.prog 7 3 3 6 := Fld.mk' (by kernel_rfl)
theorem pl7 : places Try.prog 7 = some [(0, 1), (1, 1), (2, 1), (3, 1)] := by kernel_rfl
theorem ti8 : TI Try.prog 8 4 true (.agg #[(.int .i64 0), (.int .i64 0), (.bool false), (.int .u8 0)]) 24 := TI.mk' (by kernel_rfl) (by kernel_rfl) rfl
theorem fld8_0 : Fld Try.prog 8 0 0 2 := Fld.mk' (by kernel_rfl)
theorem fld8_1 : Fld Try.prog 8 1 1 3 := Fld.mk' (by kernel_rfl)
theorem fld8_2 : Fld Try.prog 8 2 2 4 := Fld.mk' (by kernel_rfl)
theorem fld8_3 : Fld Try.prog 8 3 3 6 := Fld.mk' (by kernel_rfl)
theorem pl8 : places Try.prog 8 = some [(0, 1), (1, 1), (2, 1), (3, 1)] := by kernel_rfl
theorem ul9 : Try.prog.underlying 9 = some .string := Try.underlying9
theorem ti9 : TI Try.prog 9 1 false (.string ⟨#[]⟩) 16 := TI.mk' (by kernel_rfl) (by kernel_rfl) rfl
theorem ul10 : Try.prog.underlying 10 = some .string := Try.underlying10
theorem ti10 : TI Try.prog 10 1 false (.string ⟨#[]⟩) 16 := TI.mk' (by kernel_rfl) (by kernel_rfl) rfl
theorem ul11 : Try.prog.underlying 11 = some .string := Try.underlying11
theorem ti11 : TI Try.prog 11 1 false (.string ⟨#[]⟩) 16 := TI.mk' (by kernel_rfl) (by kernel_rfl) rfl
theorem ul12 : Try.prog.underlying 12 = some (.int .u64) := Try.underlying12
theorem ti12 : TI Try.prog 12 1 false (.int .u64 0) 8 := TI.mk' (by kernel_rfl) (by kernel_rfl) rfl
theorem ti13 : TI Try.prog 13 2 true (.agg #[(.string ⟨#[]⟩), (.int .u64 0)]) 24 := TI.mk' (by kernel_rfl) (by kernel_rfl) rfl
theorem fld13_0 : Fld Try.prog 13 0 0 9 := Fld.mk' (by kernel_rfl)
theorem fld13_1 : Fld Try.prog 13 1 1 12 := Fld.mk' (by kernel_rfl)
theorem pl13 : places Try.prog 13 = some [(0, 1), (1, 1)] := by kernel_rfl
theorem ti14 : TI Try.prog 14 2 true (.agg #[(.string ⟨#[]⟩), (.int .u64 0)]) 24 := TI.mk' (by kernel_rfl) (by kernel_rfl) rfl
theorem fld14_0 : Fld Try.prog 14 0 0 9 := Fld.mk' (by kernel_rfl)
theorem fld14_1 : Fld Try.prog 14 1 1 12 := Fld.mk' (by kernel_rfl)
theorem pl14 : places Try.prog 14 = some [(0, 1), (1, 1)] := by kernel_rfl
theorem ul15 : Try.prog.underlying 15 = some (.pointer 116) := Try.underlying15
theorem ti15 : TI Try.prog 15 1 false (.pointer none) 8 := TI.mk' (by kernel_rfl) (by kernel_rfl) rfl
theorem ul16 : Try.prog.underlying 16 = some (.pointer 119) := Try.underlying16
theorem ti16 : TI Try.prog 16 1 false (.pointer none) 8 := TI.mk' (by kernel_rfl) (by kernel_rfl) rfl
theorem ul17 : Try.prog.underlying 17 = some (.pointer 128) := Try.underlying17
theorem ti17 : TI Try.prog 17 1 false (.pointer none) 8 := TI.mk' (by kernel_rfl) (by kernel_rfl) rfl
theorem ti18 : TI Try.prog 18 1 true (.agg #[(.pointer none)]) 8 := TI.mk' (by kernel_rfl) (by kernel_rfl) rfl
theorem fld18_0 : Fld Try.prog 18 0 0 17 := Fld.mk' (by kernel_rfl)
theorem pl18 : places Try.prog 18 = some [(0, 1)] := by kernel_rfl
theorem ti19 : TI Try.prog 19 1 true (.agg #[(.pointer none)]) 8 := TI.mk' (by kernel_rfl) (by kernel_rfl) rfl
theorem fld19_0 : Fld Try.prog 19 0 0 17 := Fld.mk' (by kernel_rfl)
theorem pl19 : places Try.prog 19 = some [(0, 1)] := by kernel_rfl
theorem ul21 : Try.prog.underlying 21 = some (.int .i32) := Try.underlying21
theorem ti21 : TI Try.prog 21 1 false (.int .i32 0) 4 := TI.mk' (by kernel_rfl) (by kernel_rfl) rfl
theorem ul22 : Try.prog.underlying 22 = some (.slice 33) := Try.underlying22
theorem ti22 : TI Try.prog 22 1 false (.slice none 0 0) 24 := TI.mk' (by kernel_rfl) (by kernel_rfl) rfl
theorem ul23 : Try.prog.underlying 23 = some (.pointer 46) := Try.underlying23
theorem ti23 : TI Try.prog 23 1 false (.pointer none) 8 := TI.mk' (by kernel_rfl) (by kernel_rfl) rfl
theorem ti24 : TI Try.prog 24 1 false .nilFunc 8 := TI.mk' (by kernel_rfl) (by kernel_rfl) rfl
theorem ul25 : Try.prog.underlying 25 = some (.pointer 29) := Try.underlying25
theorem ti25 : TI Try.prog 25 1 false (.pointer none) 8 := TI.mk' (by kernel_rfl) (by kernel_rfl) rfl
theorem ul26 : Try.prog.underlying 26 = some (.slice 66) := Try.underlying26
theorem ti26 : TI Try.prog 26 1 false (.slice none 0 0) 24 := TI.mk' (by kernel_rfl) (by kernel_rfl) rfl
theorem ul27 : Try.prog.underlying 27 = some (.slice 49) := Try.underlying27
theorem ti27 : TI Try.prog 27 1 false (.slice none 0 0) 24 := TI.mk' (by kernel_rfl) (by kernel_rfl) rfl
theorem ti28 : TI Try.prog 28 2 true (.agg #[(.slice none 0 0), (.slice none 0 0)]) 48 := TI.mk' (by kernel_rfl) (by kernel_rfl) rfl
theorem fld28_0 : Fld Try.prog 28 0 0 26 := Fld.mk' (by kernel_rfl)
theorem fld28_1 : Fld Try.prog 28 1 1 27 := Fld.mk' (by kernel_rfl)
theorem pl28 : places Try.prog 28 = some [(0, 1), (1, 1)] := by kernel_rfl
theorem ti29 : TI Try.prog 29 2 true (.agg #[(.slice none 0 0), (.slice none 0 0)]) 48 := TI.mk' (by kernel_rfl) (by kernel_rfl) rfl
theorem fld29_0 : Fld Try.prog 29 0 0 26 := Fld.mk' (by kernel_rfl)
theorem fld29_1 : Fld Try.prog 29 1 1 27 := Fld.mk' (by kernel_rfl)
theorem pl29 : places Try.prog 29 = some [(0, 1), (1, 1)] := by kernel_rfl
theorem ti30 : TI Try.prog 30 1 false .nilFunc 8 := TI.mk' (by kernel_rfl) (by kernel_rfl) rfl
theorem ti31 : TI Try.prog 31 1 false .nilFunc 8 := TI.mk' (by kernel_rfl) (by kernel_rfl) rfl
theorem ti32 : TI Try.prog 32 3 true (.agg #[(.int .i64 0), (.int .i64 0), (.slice none 0 0)]) 40 := TI.mk' (by kernel_rfl) (by kernel_rfl) rfl
theorem fld32_0 : Fld Try.prog 32 0 0 3 := Fld.mk' (by kernel_rfl)
theorem fld32_1 : Fld Try.prog 32 1 1 3 := Fld.mk' (by kernel_rfl)
theorem fld32_2 : Fld Try.prog 32 2 2 27 := Fld.mk' (by kernel_rfl)
theorem pl32 : places Try.prog 32 = some [(0, 1), (1, 1), (2, 1)] := by kernel_rfl
theorem ti33 : TI Try.prog 33 3 true (.agg #[(.int .i64 0), (.int .i64 0), (.slice none 0 0)]) 40 := TI.mk' (by kernel_rfl) (by kernel_rfl) rfl
theorem fld33_0 : Fld Try.prog 33 0 0 3 := Fld.mk' (by kernel_rfl)
theorem fld33_1 : Fld Try.prog 33 1 1 3 := Fld.mk' (by kernel_rfl)
theorem fld33_2 : Fld Try.prog 33 2 2 27 := Fld.mk' (by kernel_rfl)
theorem pl33 : places Try.prog 33 = some [(0, 1), (1, 1), (2, 1)] := by kernel_rfl
theorem ul34 : Try.prog.underlying 34 = some (.int .i64) := Try.underlying34
theorem ti34 : TI Try.prog 34 1 false (.int .i64 0) 8 := TI.mk' (by kernel_rfl) (by kernel_rfl) rfl
theorem ti36 : TI Try.prog 36 1 false .nilFunc 8 := TI.mk' (by kernel_rfl) (by kernel_rfl) rfl
theorem ti37 : TI Try.prog 37 1 false .nilFunc 8 := TI.mk' (by kernel_rfl) (by kernel_rfl) rfl
theorem ti38 : TI Try.prog 38 1 false .nilFunc 8 := TI.mk' (by kernel_rfl) (by kernel_rfl) rfl
theorem ti39 : TI Try.prog 39 1 false .nilFunc 8 := TI.mk' (by kernel_rfl) (by kernel_rfl) rfl
theorem ti40 : TI Try.prog 40 1 false .nilFunc 8 := TI.mk' (by kernel_rfl) (by kernel_rfl) rfl
theorem ti42 : TI Try.prog 42 1 false .nilFunc 8 := TI.mk' (by kernel_rfl) (by kernel_rfl) rfl
theorem ti43 : TI Try.prog 43 1 false .nilFunc 8 := TI.mk' (by kernel_rfl) (by kernel_rfl) rfl
theorem ul44 : Try.prog.underlying 44 = some (.slice 59) := Try.underlying44
theorem ti44 : TI Try.prog 44 1 false (.slice none 0 0) 24 := TI.mk' (by kernel_rfl) (by kernel_rfl) rfl
theorem ti45 : TI Try.prog 45 2 true (.agg #[(.slice none 0 0), (.slice none 0 0)]) 48 := TI.mk' (by kernel_rfl) (by kernel_rfl) rfl
theorem fld45_0 : Fld Try.prog 45 0 0 44 := Fld.mk' (by kernel_rfl)
theorem fld45_1 : Fld Try.prog 45 1 1 27 := Fld.mk' (by kernel_rfl)
theorem pl45 : places Try.prog 45 = some [(0, 1), (1, 1)] := by kernel_rfl
theorem ti46 : TI Try.prog 46 2 true (.agg #[(.slice none 0 0), (.slice none 0 0)]) 48 := TI.mk' (by kernel_rfl) (by kernel_rfl) rfl
theorem fld46_0 : Fld Try.prog 46 0 0 44 := Fld.mk' (by kernel_rfl)
theorem fld46_1 : Fld Try.prog 46 1 1 27 := Fld.mk' (by kernel_rfl)
theorem pl46 : places Try.prog 46 = some [(0, 1), (1, 1)] := by kernel_rfl
theorem ti47 : TI Try.prog 47 1 false .nilFunc 8 := TI.mk' (by kernel_rfl) (by kernel_rfl) rfl
theorem ti48 : TI Try.prog 48 2 true (.agg #[(.int .i64 0), (.int .i64 0)]) 16 := TI.mk' (by kernel_rfl) (by kernel_rfl) rfl
theorem fld48_0 : Fld Try.prog 48 0 0 3 := Fld.mk' (by kernel_rfl)
theorem fld48_1 : Fld Try.prog 48 1 1 3 := Fld.mk' (by kernel_rfl)
theorem pl48 : places Try.prog 48 = some [(0, 1), (1, 1)] := by kernel_rfl
theorem ti49 : TI Try.prog 49 2 true (.agg #[(.int .i64 0), (.int .i64 0)]) 16 := TI.mk' (by kernel_rfl) (by kernel_rfl) rfl
theorem sd49 : sdescs Try.prog 49 = some [.int .i64, .int .i64] := by kernel_rfl
theorem fld49_0 : Fld Try.prog 49 0 0 3 := Fld.mk' (by kernel_rfl)
theorem fld49_1 : Fld Try.prog 49 1 1 3 := Fld.mk' (by kernel_rfl)
theorem pl49 : places Try.prog 49 = some [(0, 1), (1, 1)] := by kernel_rfl
theorem ul50 : Try.prog.underlying 50 = some (.slice 3) := Try.underlying50
theorem ti50 : TI Try.prog 50 1 false (.slice none 0 0) 24 := TI.mk' (by kernel_rfl) (by kernel_rfl) rfl
theorem ti51 : TI Try.prog 51 1 false .nilFunc 8 := TI.mk' (by kernel_rfl) (by kernel_rfl) rfl
theorem ti53 : TI Try.prog 53 1 false .nilFunc 8 := TI.mk' (by kernel_rfl) (by kernel_rfl) rfl
theorem ti54 : TI Try.prog 54 1 false .nilFunc 8 := TI.mk' (by kernel_rfl) (by kernel_rfl) rfl
theorem ti55 : TI Try.prog 55 1 false .nilFunc 8 := TI.mk' (by kernel_rfl) (by kernel_rfl) rfl
theorem ti57 : TI Try.prog 57 1 false .nilFunc 8 := TI.mk' (by kernel_rfl) (by kernel_rfl) rfl
theorem ti58 : TI Try.prog 58 2 true (.agg #[(.int .i64 0), (.slice none 0 0)]) 32 := TI.mk' (by kernel_rfl) (by kernel_rfl) rfl
theorem fld58_0 : Fld Try.prog 58 0 0 3 := Fld.mk' (by kernel_rfl)
theorem fld58_1 : Fld Try.prog 58 1 1 27 := Fld.mk' (by kernel_rfl)
theorem pl58 : places Try.prog 58 = some [(0, 1), (1, 1)] := by kernel_rfl
theorem ti59 : TI Try.prog 59 2 true (.agg #[(.int .i64 0), (.slice none 0 0)]) 32 := TI.mk' (by kernel_rfl) (by kernel_rfl) rfl
theorem fld59_0 : Fld Try.prog 59 0 0 3 := Fld.mk' (by kernel_rfl)
theorem fld59_1 : Fld Try.prog 59 1 1 27 := Fld.mk' (by kernel_rfl)
theorem pl59 : places Try.prog 59 = some [(0, 1), (1, 1)] := by kernel_rfl
theorem ti61 : TI Try.prog 61 1 false .nilFunc 8 := TI.mk' (by kernel_rfl) (by kernel_rfl) rfl
theorem ul62 : Try.prog.underlying 62 = some (.slice 5) := Try.underlying62
theorem ti62 : TI Try.prog 62 1 false (.slice none 0 0) 24 := TI.mk' (by kernel_rfl) (by kernel_rfl) rfl
theorem ti63 : TI Try.prog 63 1 false .nilFunc 8 := TI.mk' (by kernel_rfl) (by kernel_rfl) rfl
theorem ti64 : TI Try.prog 64 1 false .nilFunc 8 := TI.mk' (by kernel_rfl) (by kernel_rfl) rfl
theorem ti65 : TI Try.prog 65 2 true (.agg #[(.int .i64 0), (.slice none 0 0)]) 32 := TI.mk' (by kernel_rfl) (by kernel_rfl) rfl
theorem fld65_0 : Fld Try.prog 65 0 0 3 := Fld.mk' (by kernel_rfl)
theorem fld65_1 : Fld Try.prog 65 1 1 27 := Fld.mk' (by kernel_rfl)
theorem pl65 : places Try.prog 65 = some [(0, 1), (1, 1)] := by kernel_rfl
theorem ti66 : TI Try.prog 66 2 true (.agg #[(.int .i64 0), (.slice none 0 0)]) 32 := TI.mk' (by kernel_rfl) (by kernel_rfl) rfl
theorem fld66_0 : Fld Try.prog 66 0 0 3 := Fld.mk' (by kernel_rfl)
theorem fld66_1 : Fld Try.prog 66 1 1 27 := Fld.mk' (by kernel_rfl)
theorem pl66 : places Try.prog 66 = some [(0, 1), (1, 1)] := by kernel_rfl
theorem ti67 : TI Try.prog 67 1 false .nilFunc 8 := TI.mk' (by kernel_rfl) (by kernel_rfl) rfl
theorem ti68 : TI Try.prog 68 1 false .nilFunc 8 := TI.mk' (by kernel_rfl) (by kernel_rfl) rfl
theorem ti69 : TI Try.prog 69 1 false .nilFunc 8 := TI.mk' (by kernel_rfl) (by kernel_rfl) rfl
theorem ul70 : Try.prog.underlying 70 = some (.map 3 3) := Try.underlying70
theorem ti70 : TI Try.prog 70 1 false (.map none) 8 := TI.mk' (by kernel_rfl) (by kernel_rfl) rfl
theorem ti71 : TI Try.prog 71 1 false .nilFunc 8 := TI.mk' (by kernel_rfl) (by kernel_rfl) rfl
theorem ti72 : TI Try.prog 72 1 false .nilFunc 8 := TI.mk' (by kernel_rfl) (by kernel_rfl) rfl
theorem ti73 : TI Try.prog 73 1 false .nilFunc 8 := TI.mk' (by kernel_rfl) (by kernel_rfl) rfl
theorem ti74 : TI Try.prog 74 1 false .nilFunc 8 := TI.mk' (by kernel_rfl) (by kernel_rfl) rfl
theorem ul75 : Try.prog.underlying 75 = some (.int .u64) := Try.underlying75
theorem ti75 : TI Try.prog 75 1 false (.int .u64 0) 8 := TI.mk' (by kernel_rfl) (by kernel_rfl) rfl
theorem ti77 : TI Try.prog 77 1 false .nilFunc 8 := TI.mk' (by kernel_rfl) (by kernel_rfl) rfl
theorem ti78 : TI Try.prog 78 1 false .nilFunc 8 := TI.mk' (by kernel_rfl) (by kernel_rfl) rfl
theorem ti80 : TI Try.prog 80 1 false .nilFunc 8 := TI.mk' (by kernel_rfl) (by kernel_rfl) rfl
theorem ti81 : TI Try.prog 81 1 false .nilFunc 8 := TI.mk' (by kernel_rfl) (by kernel_rfl) rfl
theorem ti83 : TI Try.prog 83 1 false .nilFunc 8 := TI.mk' (by kernel_rfl) (by kernel_rfl) rfl
theorem ti84 : TI Try.prog 84 1 false .nilFunc 8 := TI.mk' (by kernel_rfl) (by kernel_rfl) rfl
theorem ti85 : TI Try.prog 85 1 false .nilFunc 8 := TI.mk' (by kernel_rfl) (by kernel_rfl) rfl
theorem ti87 : TI Try.prog 87 1 false .nilFunc 8 := TI.mk' (by kernel_rfl) (by kernel_rfl) rfl
theorem ti88 : TI Try.prog 88 1 false .nilFunc 8 := TI.mk' (by kernel_rfl) (by kernel_rfl) rfl
theorem ti89 : TI Try.prog 89 1 false .nilFunc 8 := TI.mk' (by kernel_rfl) (by kernel_rfl) rfl
theorem ti90 : TI Try.prog 90 1 false .nilFunc 8 := TI.mk' (by kernel_rfl) (by kernel_rfl) rfl
theorem ti91 : TI Try.prog 91 1 false .nilFunc 8 := TI.mk' (by kernel_rfl) (by kernel_rfl) rfl
theorem ul92 : Try.prog.underlying 92 = some (.int .u64) := Try.underlying92
theorem ti92 : TI Try.prog 92 1 false (.int .u64 0) 8 := TI.mk' (by kernel_rfl) (by kernel_rfl) rfl
theorem ti93 : TI Try.prog 93 1 false .nilFunc 8 := TI.mk' (by kernel_rfl) (by kernel_rfl) rfl
theorem ti94 : TI Try.prog 94 1 false .nilFunc 8 := TI.mk' (by kernel_rfl) (by kernel_rfl) rfl
theorem ti95 : TI Try.prog 95 1 false .nilFunc 8 := TI.mk' (by kernel_rfl) (by kernel_rfl) rfl
theorem ti96 : TI Try.prog 96 1 false .nilFunc 8 := TI.mk' (by kernel_rfl) (by kernel_rfl) rfl
theorem ti97 : TI Try.prog 97 1 false .nilFunc 8 := TI.mk' (by kernel_rfl) (by kernel_rfl) rfl
theorem ul98 : Try.prog.underlying 98 = some (.int .i64) := Try.underlying98
theorem ti98 : TI Try.prog 98 1 false (.int .i64 0) 8 := TI.mk' (by kernel_rfl) (by kernel_rfl) rfl
theorem ti100 : TI Try.prog 100 1 false .nilFunc 8 := TI.mk' (by kernel_rfl) (by kernel_rfl) rfl
theorem ti101 : TI Try.prog 101 1 false .nilFunc 8 := TI.mk' (by kernel_rfl) (by kernel_rfl) rfl
theorem ti102 : TI Try.prog 102 1 false .nilFunc 8 := TI.mk' (by kernel_rfl) (by kernel_rfl) rfl
theorem ti103 : TI Try.prog 103 1 false .nilFunc 8 := TI.mk' (by kernel_rfl) (by kernel_rfl) rfl
theorem ti104 : TI Try.prog 104 1 false .nilFunc 8 := TI.mk' (by kernel_rfl) (by kernel_rfl) rfl
theorem ul105 : Try.prog.underlying 105 = some (.int .u32) := Try.underlying105
theorem ti105 : TI Try.prog 105 1 false (.int .u32 0) 4 := TI.mk' (by kernel_rfl) (by kernel_rfl) rfl
theorem ti106 : TI Try.prog 106 1 false .nilFunc 8 := TI.mk' (by kernel_rfl) (by kernel_rfl) rfl
theorem ul107 : Try.prog.underlying 107 = some (.int .u64) := Try.underlying107
theorem ti107 : TI Try.prog 107 1 false (.int .u64 0) 8 := TI.mk' (by kernel_rfl) (by kernel_rfl) rfl
theorem ti108 : TI Try.prog 108 1 false .nilFunc 8 := TI.mk' (by kernel_rfl) (by kernel_rfl) rfl
theorem ti109 : TI Try.prog 109 1 false .nilFunc 8 := TI.mk' (by kernel_rfl) (by kernel_rfl) rfl
theorem ti110 : TI Try.prog 110 1 false .nilFunc 8 := TI.mk' (by kernel_rfl) (by kernel_rfl) rfl
theorem ul111 : Try.prog.underlying 111 = some (.pointer 3) := Try.underlying111
theorem ti111 : TI Try.prog 111 1 false (.pointer none) 8 := TI.mk' (by kernel_rfl) (by kernel_rfl) rfl
theorem ti112 : TI Try.prog 112 1 false .nilFunc 8 := TI.mk' (by kernel_rfl) (by kernel_rfl) rfl
theorem ul113 : Try.prog.underlying 113 = some (.pointer 107) := Try.underlying113
theorem ti113 : TI Try.prog 113 1 false (.pointer none) 8 := TI.mk' (by kernel_rfl) (by kernel_rfl) rfl
theorem ti114 : TI Try.prog 114 1 false .nilFunc 8 := TI.mk' (by kernel_rfl) (by kernel_rfl) rfl
theorem ti115 : TI Try.prog 115 4 true (.agg #[(.pointer none), (.pointer none), (.pointer none), (.string ⟨#[]⟩)]) 40 := TI.mk' (by kernel_rfl) (by kernel_rfl) rfl
theorem fld115_0 : Fld Try.prog 115 0 0 17 := Fld.mk' (by kernel_rfl)
theorem fld115_1 : Fld Try.prog 115 1 1 17 := Fld.mk' (by kernel_rfl)
theorem fld115_2 : Fld Try.prog 115 2 2 17 := Fld.mk' (by kernel_rfl)
theorem fld115_3 : Fld Try.prog 115 3 3 9 := Fld.mk' (by kernel_rfl)
theorem pl115 : places Try.prog 115 = some [(0, 1), (1, 1), (2, 1), (3, 1)] := by kernel_rfl
theorem ti116 : TI Try.prog 116 4 true (.agg #[(.pointer none), (.pointer none), (.pointer none), (.string ⟨#[]⟩)]) 40 := TI.mk' (by kernel_rfl) (by kernel_rfl) rfl
theorem fld116_0 : Fld Try.prog 116 0 0 17 := Fld.mk' (by kernel_rfl)
theorem fld116_1 : Fld Try.prog 116 1 1 17 := Fld.mk' (by kernel_rfl)
theorem fld116_2 : Fld Try.prog 116 2 2 17 := Fld.mk' (by kernel_rfl)
theorem fld116_3 : Fld Try.prog 116 3 3 9 := Fld.mk' (by kernel_rfl)
theorem pl116 : places Try.prog 116 = some [(0, 1), (1, 1), (2, 1), (3, 1)] := by kernel_rfl
theorem ti118 : TI Try.prog 118 0 true (.agg #[]) 0 := TI.mk' (by kernel_rfl) (by kernel_rfl) rfl
theorem fld118_0 : Fld Try.prog 118 0 0 117 := Fld.mk' (by kernel_rfl)
theorem pl118 : places Try.prog 118 = some [(0, 0)] := by kernel_rfl
theorem ti119 : TI Try.prog 119 0 true (.agg #[]) 0 := TI.mk' (by kernel_rfl) (by kernel_rfl) rfl
theorem fld119_0 : Fld Try.prog 119 0 0 117 := Fld.mk' (by kernel_rfl)
theorem pl119 : places Try.prog 119 = some [(0, 0)] := by kernel_rfl
theorem ti120 : TI Try.prog 120 1 false .nilFunc 8 := TI.mk' (by kernel_rfl) (by kernel_rfl) rfl
theorem ul121 : Try.prog.underlying 121 = some (.int .u8) := Try.underlying121
theorem ti121 : TI Try.prog 121 1 false (.int .u8 0) 1 := TI.mk' (by kernel_rfl) (by kernel_rfl) rfl
theorem ul122 : Try.prog.underlying 122 = some (.int .u8) := Try.underlying122
theorem ti122 : TI Try.prog 122 1 false (.int .u8 0) 1 := TI.mk' (by kernel_rfl) (by kernel_rfl) rfl
theorem ti123 : TI Try.prog 123 1 false .nilFunc 8 := TI.mk' (by kernel_rfl) (by kernel_rfl) rfl
theorem ul124 : Try.prog.underlying 124 = some (.pointer 5) := Try.underlying124
theorem ti124 : TI Try.prog 124 1 false (.pointer none) 8 := TI.mk' (by kernel_rfl) (by kernel_rfl) rfl
theorem ul125 : Try.prog.underlying 125 = some (.int .i32) := Try.underlying125
theorem ti125 : TI Try.prog 125 1 false (.int .i32 0) 4 := TI.mk' (by kernel_rfl) (by kernel_rfl) rfl
theorem ul126 : Try.prog.underlying 126 = some (.int .i32) := Try.underlying126
theorem ti126 : TI Try.prog 126 1 false (.int .i32 0) 4 := TI.mk' (by kernel_rfl) (by kernel_rfl) rfl
theorem ti127 : TI Try.prog 127 11 true (.agg #[(.int .u64 0), (.int .u64 0), (.int .u32 0), (.int .u8 0), (.int .u8 0), (.int .u8 0), (.int .u8 0), .nilFunc, (.pointer none), (.int .i32 0), (.int .i32 0)]) 48 := TI.mk' (by kernel_rfl) (by kernel_rfl) rfl
theorem fld127_0 : Fld Try.prog 127 0 0 12 := Fld.mk' (by kernel_rfl)
theorem fld127_1 : Fld Try.prog 127 1 1 12 := Fld.mk' (by kernel_rfl)
theorem fld127_2 : Fld Try.prog 127 2 2 105 := Fld.mk' (by kernel_rfl)
theorem fld127_3 : Fld Try.prog 127 3 3 121 := Fld.mk' (by kernel_rfl)
theorem fld127_4 : Fld Try.prog 127 4 4 5 := Fld.mk' (by kernel_rfl)
theorem fld127_5 : Fld Try.prog 127 5 5 5 := Fld.mk' (by kernel_rfl)
theorem fld127_6 : Fld Try.prog 127 6 6 122 := Fld.mk' (by kernel_rfl)
theorem fld127_7 : Fld Try.prog 127 7 7 123 := Fld.mk' (by kernel_rfl)
theorem fld127_8 : Fld Try.prog 127 8 8 124 := Fld.mk' (by kernel_rfl)
theorem fld127_9 : Fld Try.prog 127 9 9 125 := Fld.mk' (by kernel_rfl)
theorem fld127_10 : Fld Try.prog 127 10 10 126 := Fld.mk' (by kernel_rfl)
theorem pl127 : places Try.prog 127 = some [(0, 1), (1, 1), (2, 1), (3, 1), (4, 1), (5, 1), (6, 1), (7, 1), (8, 1), (9, 1), (10, 1)] := by kernel_rfl
theorem ti128 : TI Try.prog 128 11 true (.agg #[(.int .u64 0), (.int .u64 0), (.int .u32 0), (.int .u8 0), (.int .u8 0), (.int .u8 0), (.int .u8 0), .nilFunc, (.pointer none), (.int .i32 0), (.int .i32 0)]) 48 := TI.mk' (by kernel_rfl) (by kernel_rfl) rfl
theorem fld128_0 : Fld Try.prog 128 0 0 12 := Fld.mk' (by kernel_rfl)
theorem fld128_1 : Fld Try.prog 128 1 1 12 := Fld.mk' (by kernel_rfl)
theorem fld128_2 : Fld Try.prog 128 2 2 105 := Fld.mk' (by kernel_rfl)
theorem fld128_3 : Fld Try.prog 128 3 3 121 := Fld.mk' (by kernel_rfl)
theorem fld128_4 : Fld Try.prog 128 4 4 5 := Fld.mk' (by kernel_rfl)
theorem fld128_5 : Fld Try.prog 128 5 5 5 := Fld.mk' (by kernel_rfl)
theorem fld128_6 : Fld Try.prog 128 6 6 122 := Fld.mk' (by kernel_rfl)
theorem fld128_7 : Fld Try.prog 128 7 7 123 := Fld.mk' (by kernel_rfl)
theorem fld128_8 : Fld Try.prog 128 8 8 124 := Fld.mk' (by kernel_rfl)
theorem fld128_9 : Fld Try.prog 128 9 9 125 := Fld.mk' (by kernel_rfl)
theorem fld128_10 : Fld Try.prog 128 10 10 126 := Fld.mk' (by kernel_rfl)
theorem pl128 : places Try.prog 128 = some [(0, 1), (1, 1), (2, 1), (3, 1), (4, 1), (5, 1), (6, 1), (7, 1), (8, 1), (9, 1), (10, 1)] := by kernel_rfl
theorem ke3 : KE Try.prog 3 (fun z : Int => .int .i64 z) := KE.int ul3
end Go.Proofs.Ytfiambcocnceiaa
