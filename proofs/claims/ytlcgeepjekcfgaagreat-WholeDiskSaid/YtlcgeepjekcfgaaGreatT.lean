/- What the walks ask of the types and functions of this program: closed facts. -/
import Derived.Test.YtlcgeepjekcfgaaGreatF
namespace Go.Proofs.YtlcgeepjekcfgaaGreat
open Go.RowKit
theorem sc_3 : scal 3 = true := by kernel_rfl
theorem sz_3 : (P.info? 3).map (·.size) = some 1 := by kernel_rfl
theorem sc_4 : scal 4 = true := by kernel_rfl
theorem sz_4 : (P.info? 4).map (·.size) = some 1 := by kernel_rfl
theorem sc_5 : scal 5 = true := by kernel_rfl
theorem sz_5 : (P.info? 5).map (·.size) = some 1 := by kernel_rfl
theorem sc_9 : scal 9 = true := by kernel_rfl
theorem sz_9 : (P.info? 9).map (·.size) = some 1 := by kernel_rfl
theorem sc_22 : scal 22 = true := by kernel_rfl
theorem sz_22 : (P.info? 22).map (·.size) = some 1 := by kernel_rfl
theorem ag_25 : aggr 25 = some 2 := by kernel_rfl
theorem sc_27 : scal 27 = true := by kernel_rfl
theorem sz_27 : (P.info? 27).map (·.size) = some 1 := by kernel_rfl
theorem sc_30 : scal 30 = true := by kernel_rfl
theorem sz_30 : (P.info? 30).map (·.size) = some 1 := by kernel_rfl
theorem sc_34 : scal 34 = true := by kernel_rfl
theorem sz_34 : (P.info? 34).map (·.size) = some 1 := by kernel_rfl
theorem ag_36 : aggr 36 = some 10 := by kernel_rfl
theorem ag_46 : aggr 46 = some 3 := by kernel_rfl
theorem sc_47 : scal 47 = true := by kernel_rfl
theorem sz_47 : (P.info? 47).map (·.size) = some 1 := by kernel_rfl
theorem sc_48 : scal 48 = true := by kernel_rfl
theorem sz_48 : (P.info? 48).map (·.size) = some 1 := by kernel_rfl
theorem ag_50 : aggr 50 = some 6 := by kernel_rfl
theorem sc_54 : scal 54 = true := by kernel_rfl
theorem sz_54 : (P.info? 54).map (·.size) = some 1 := by kernel_rfl
theorem sc_55 : scal 55 = true := by kernel_rfl
theorem sz_55 : (P.info? 55).map (·.size) = some 1 := by kernel_rfl
theorem ag_68 : aggr 68 = some 2 := by kernel_rfl
theorem ag_76 : aggr 76 = some 2 := by kernel_rfl
theorem ag_82 : aggr 82 = some 0 := by kernel_rfl
theorem sc_85 : scal 85 = true := by kernel_rfl
theorem sz_85 : (P.info? 85).map (·.size) = some 1 := by kernel_rfl
theorem sc_86 : scal 86 = true := by kernel_rfl
theorem sz_86 : (P.info? 86).map (·.size) = some 1 := by kernel_rfl
theorem sc_106 : scal 106 = true := by kernel_rfl
theorem sz_106 : (P.info? 106).map (·.size) = some 1 := by kernel_rfl
theorem ag_118 : aggr 118 = some 2 := by kernel_rfl
theorem fo_25_0 : fo 25 0 = some 0 := by kernel_rfl
theorem fo_25_1 : fo 25 1 = some 1 := by kernel_rfl
theorem fo_29_0 : fo 29 0 = some 0 := by kernel_rfl
theorem fo_29_1 : fo 29 1 = some 1 := by kernel_rfl
theorem fo_29_2 : fo 29 2 = some 2 := by kernel_rfl
theorem fo_46_0 : fo 46 0 = some 0 := by kernel_rfl
theorem fo_46_1 : fo 46 1 = some 1 := by kernel_rfl
theorem fo_46_2 : fo 46 2 = some 2 := by kernel_rfl
theorem fo_50_0 : fo 50 0 = some 0 := by kernel_rfl
theorem fo_50_1 : fo 50 1 = some 3 := by kernel_rfl
theorem fo_50_2 : fo 50 2 = some 4 := by kernel_rfl
theorem fo_50_3 : fo 50 3 = some 5 := by kernel_rfl
theorem fo_57_0 : fo 57 0 = some 0 := by kernel_rfl
theorem fo_57_1 : fo 57 1 = some 6 := by kernel_rfl
theorem fo_57_2 : fo 57 2 = some 7 := by kernel_rfl
theorem fo_57_3 : fo 57 3 = some 8 := by kernel_rfl
theorem fo_68_0 : fo 68 0 = some 0 := by kernel_rfl
theorem fo_68_1 : fo 68 1 = some 1 := by kernel_rfl
theorem fo_76_0 : fo 76 0 = some 0 := by kernel_rfl
theorem fo_76_1 : fo 76 1 = some 1 := by kernel_rfl
theorem fo_88_0 : fo 88 0 = some 0 := by kernel_rfl
theorem fo_88_1 : fo 88 1 = some 1 := by kernel_rfl
theorem fo_105_0 : fo 105 0 = some 0 := by kernel_rfl
theorem fo_105_1 : fo 105 1 = some 1 := by kernel_rfl
theorem fo_108_0 : fo 108 0 = some 0 := by kernel_rfl
theorem fo_108_1 : fo 108 1 = some 1 := by kernel_rfl
theorem fo_118_0 : fo 118 0 = some 0 := by kernel_rfl
theorem fo_118_1 : fo 118 1 = some 1 := by kernel_rfl
theorem zc_4 : zc 4 = some #[.bool false] := by kernel_rfl
theorem zc_9 : zc 9 = some #[str []] := by kernel_rfl
theorem zc_25 : zc 25 = some #[.int .i64 0, .int .i64 0] := by kernel_rfl
theorem zc_36 : zc 36 = some #[.int .i64 0, .int .i64 0, .int .i64 0, .int .i64 0, .int .i64 0, .int .i64 0, .int .i64 0, .int .i64 0, .int .i64 0, .int .i64 0] := by kernel_rfl
theorem zc_46 : zc 46 = some #[.int .i64 0, .int .i64 0, .int .i64 0] := by kernel_rfl
theorem zc_48 : zc 48 = some #[.slice none 0 0] := by kernel_rfl
theorem zc_50 : zc 50 = some #[.int .i64 0, .int .i64 0, .int .i64 0, .int .i64 0, .map none, .slice none 0 0] := by kernel_rfl
theorem zc_68 : zc 68 = some #[str [], str []] := by kernel_rfl
theorem zc_76 : zc 76 = some #[str [], .slice none 0 0] := by kernel_rfl
theorem zc_82 : zc 82 = some #[] := by kernel_rfl
theorem zc_108 : zc 108 = some #[.pointer none, .slice none 0 0] := by kernel_rfl
theorem zc_118 : zc 118 = some #[.int .i64 0, str []] := by kernel_rfl
theorem es_3 : (P.info? 3).map (·.size) = some 1 := by kernel_rfl
theorem ei_3 : einf 3 = some (.int .i64 0, 1, 8) := by kernel_rfl
theorem es_5 : (P.info? 5).map (·.size) = some 1 := by kernel_rfl
theorem ei_5 : einf 5 = some (.int .u8 0, 1, 1) := by kernel_rfl
theorem es_9 : (P.info? 9).map (·.size) = some 1 := by kernel_rfl
theorem ei_9 : einf 9 = some (str [], 1, 16) := by kernel_rfl
theorem es_25 : (P.info? 25).map (·.size) = some 2 := by kernel_rfl
theorem ei_25 : einf 25 = some (.agg #[.int .i64 0, .int .i64 0], 2, 16) := by kernel_rfl
theorem es_68 : (P.info? 68).map (·.size) = some 2 := by kernel_rfl
theorem ei_68 : einf 68 = some (.agg #[str [], str []], 2, 32) := by kernel_rfl
theorem es_118 : (P.info? 118).map (·.size) = some 2 := by kernel_rfl
theorem ei_118 : einf 118 = some (.agg #[.int .i64 0, str []], 2, 24) := by kernel_rfl
theorem zv_4 : (P.info? 4).bind (·.zero) = some (.bool false) := by kernel_rfl
theorem zv_9 : (P.info? 9).bind (·.zero) = some (str []) := by kernel_rfl
theorem zv_76 : (P.info? 76).bind (·.zero) = some (.agg #[str [], .slice none 0 0]) := by kernel_rfl
theorem en_4 : Enters P 4 := enters_of Tryz.func4 (by kernel_rfl) rfl
theorem en_5 : Enters P 5 := enters_of Tryz.func5 (by kernel_rfl) rfl
theorem en_6 : Enters P 6 := enters_of Tryz.func6 (by kernel_rfl) rfl
theorem en_7 : Enters P 7 := enters_of Tryz.func7 (by kernel_rfl) rfl
theorem en_8 : Enters P 8 := enters_of Tryz.func8 (by kernel_rfl) rfl
theorem en_9 : Enters P 9 := enters_of Tryz.func9 (by kernel_rfl) rfl
theorem en_10 : Enters P 10 := enters_of Tryz.func10 (by kernel_rfl) rfl
theorem en_11 : Enters P 11 := enters_of Tryz.func11 (by kernel_rfl) rfl
theorem en_12 : Enters P 12 := enters_of Tryz.func12 (by kernel_rfl) rfl
theorem en_13 : Enters P 13 := enters_of Tryz.func13 (by kernel_rfl) rfl
theorem en_14 : Enters P 14 := enters_of Tryz.func14 (by kernel_rfl) rfl
theorem en_15 : Enters P 15 := enters_of Tryz.func15 (by kernel_rfl) rfl
theorem en_16 : Enters P 16 := enters_of Tryz.func16 (by kernel_rfl) rfl
theorem en_17 : Enters P 17 := enters_of Tryz.func17 (by kernel_rfl) rfl
theorem en_18 : Enters P 18 := enters_of Tryz.func18 (by kernel_rfl) rfl
theorem en_19 : Enters P 19 := enters_of Tryz.func19 (by kernel_rfl) rfl
theorem en_20 : Enters P 20 := enters_of Tryz.func20 (by kernel_rfl) rfl
theorem en_21 : Enters P 21 := enters_of Tryz.func21 (by kernel_rfl) rfl
theorem en_22 : Enters P 22 := enters_of Tryz.func22 (by kernel_rfl) rfl
theorem en_23 : Enters P 23 := enters_of Tryz.func23 (by kernel_rfl) rfl
theorem en_24 : Enters P 24 := enters_of Tryz.func24 (by kernel_rfl) rfl
theorem en_25 : Enters P 25 := enters_of Tryz.func25 (by kernel_rfl) rfl
theorem en_26 : Enters P 26 := enters_of Tryz.func26 (by kernel_rfl) rfl
theorem en_27 : Enters P 27 := enters_of Tryz.func27 (by kernel_rfl) rfl
theorem en_28 : Enters P 28 := enters_of Tryz.func28 (by kernel_rfl) rfl
theorem en_29 : Enters P 29 := enters_of Tryz.func29 (by kernel_rfl) rfl
theorem en_30 : Enters P 30 := enters_of Tryz.func30 (by kernel_rfl) rfl
theorem en_31 : Enters P 31 := enters_of Tryz.func31 (by kernel_rfl) rfl
theorem en_32 : Enters P 32 := enters_of Tryz.func32 (by kernel_rfl) rfl
theorem en_33 : Enters P 33 := enters_of Tryz.func33 (by kernel_rfl) rfl
theorem en_34 : Enters P 34 := enters_of Tryz.func34 (by kernel_rfl) rfl
theorem en_35 : Enters P 35 := enters_of Tryz.func35 (by kernel_rfl) rfl
theorem en_36 : Enters P 36 := enters_of Tryz.func36 (by kernel_rfl) rfl
theorem en_37 : Enters P 37 := enters_of Tryz.func37 (by kernel_rfl) rfl
theorem en_38 : Enters P 38 := enters_of Tryz.func38 (by kernel_rfl) rfl
theorem en_39 : Enters P 39 := enters_of Tryz.func39 (by kernel_rfl) rfl
theorem en_40 : Enters P 40 := enters_of Tryz.func40 (by kernel_rfl) rfl
theorem en_41 : Enters P 41 := enters_of Tryz.func41 (by kernel_rfl) rfl
theorem en_42 : Enters P 42 := enters_of Tryz.func42 (by kernel_rfl) rfl
theorem en_43 : Enters P 43 := enters_of Tryz.func43 (by kernel_rfl) rfl
theorem en_44 : Enters P 44 := enters_of Tryz.func44 (by kernel_rfl) rfl
theorem en_45 : Enters P 45 := enters_of Tryz.func45 (by kernel_rfl) rfl
theorem en_46 : Enters P 46 := enters_of Tryz.func46 (by kernel_rfl) rfl
theorem en_47 : Enters P 47 := enters_of Tryz.func47 (by kernel_rfl) rfl
theorem en_48 : Enters P 48 := enters_of Tryz.func48 (by kernel_rfl) rfl
theorem en_49 : Enters P 49 := enters_of Tryz.func49 (by kernel_rfl) rfl
theorem en_50 : Enters P 50 := enters_of Tryz.func50 (by kernel_rfl) rfl
theorem en_51 : Enters P 51 := enters_of Tryz.func51 (by kernel_rfl) rfl
theorem en_52 : Enters P 52 := enters_of Tryz.func52 (by kernel_rfl) rfl
theorem en_53 : Enters P 53 := enters_of Tryz.func53 (by kernel_rfl) rfl
theorem en_54 : Enters P 54 := enters_of Tryz.func54 (by kernel_rfl) rfl
theorem en_55 : Enters P 55 := enters_of Tryz.func55 (by kernel_rfl) rfl
theorem en_56 : Enters P 56 := enters_of Tryz.func56 (by kernel_rfl) rfl
theorem en_57 : Enters P 57 := enters_of Tryz.func57 (by kernel_rfl) rfl
theorem en_58 : Enters P 58 := enters_of Tryz.func58 (by kernel_rfl) rfl
theorem en_59 : Enters P 59 := enters_of Tryz.func59 (by kernel_rfl) rfl
theorem en_60 : Enters P 60 := enters_of Tryz.func60 (by kernel_rfl) rfl
theorem en_61 : Enters P 61 := enters_of Tryz.func61 (by kernel_rfl) rfl
theorem en_62 : Enters P 62 := enters_of Tryz.func62 (by kernel_rfl) rfl
theorem en_63 : Enters P 63 := enters_of Tryz.func63 (by kernel_rfl) rfl
theorem en_64 : Enters P 64 := enters_of Tryz.func64 (by kernel_rfl) rfl
theorem en_65 : Enters P 65 := enters_of Tryz.func65 (by kernel_rfl) rfl
theorem en_70 : Enters P 70 := enters_of Tryz.func70 (by kernel_rfl) rfl
theorem en_71 : Enters P 71 := enters_of Tryz.func71 (by kernel_rfl) rfl
theorem en_72 : Enters P 72 := enters_of Tryz.func72 (by kernel_rfl) rfl
theorem en_73 : Enters P 73 := enters_of Tryz.func73 (by kernel_rfl) rfl
theorem en_74 : Enters P 74 := enters_of Tryz.func74 (by kernel_rfl) rfl
theorem en_75 : Enters P 75 := enters_of Tryz.func75 (by kernel_rfl) rfl
theorem en_76 : Enters P 76 := enters_of Tryz.func76 (by kernel_rfl) rfl
theorem en_77 : Enters P 77 := enters_of Tryz.func77 (by kernel_rfl) rfl
theorem en_78 : Enters P 78 := enters_of Tryz.func78 (by kernel_rfl) rfl
theorem en_80 : Enters P 80 := enters_of Tryz.func80 (by kernel_rfl) rfl
theorem en_84 : Enters P 84 := enters_of Tryz.func84 (by kernel_rfl) rfl
end Go.Proofs.YtlcgeepjekcfgaaGreat
