/- Each function returns what its plain one does. -/
import Derived.Test.YtoildogibnampaaGreatNT
import Derived.Test.YtoildogibnampaaGreatBaseG
import Derived.Test.YtoildogibnampaaGreatBaseF
namespace Go.Proofs.YtoildogibnampaaGreat
open Go Net
set_option maxRecDepth 100000
set_option linter.unusedVariables false

noncomputable def sg101 : Sig := ⟨[.val (.sl (.st .sat)) false, .val I64 false], [.v I64 .own], Int, fun a => L_szSatS a.1 a.2.1, fun o => ((), (o, ()))⟩
theorem g101 : FnGood Tryz.prog 101 sg101 :=
  good_of (l := []) (nt := 12) (io := []) ⟨fun n => match n with | _ => none, fun n => match n with | _ => none⟩ (fun z => z.2.1)
    mixed tysOK Tryz.func101 trivial (by kernel_rfl) (fun _ => rfl) (fun _ => by kernel_rfl)

noncomputable def sg102 : Sig := ⟨[.val (.sl (.st .site)) false, .val I64 false], [.v I64 .own], Int, fun a => L_szSiteS a.1 a.2.1, fun o => ((), (o, ()))⟩
theorem g102 : FnGood Tryz.prog 102 sg102 :=
  good_of (l := []) (nt := 12) (io := []) ⟨fun n => match n with | _ => none, fun n => match n with | _ => none⟩ (fun z => z.2.1)
    mixed tysOK Tryz.func102 trivial (by kernel_rfl) (fun _ => rfl) (fun _ => by kernel_rfl)

noncomputable def sg103 : Sig := ⟨[.val (.sl (.st .zone)) false, .val I64 false], [.v I64 .own], Int, fun a => L_szZoneS a.1 a.2.1, fun o => ((), (o, ()))⟩
theorem g103 : FnGood Tryz.prog 103 sg103 :=
  good_of (l := []) (nt := 12) (io := []) ⟨fun n => match n with | _ => none, fun n => match n with | _ => none⟩ (fun z => z.2.1)
    mixed tysOK Tryz.func103 trivial (by kernel_rfl) (fun _ => rfl) (fun _ => by kernel_rfl)

noncomputable def sg23 : Sig := ⟨[.val (.st .sky) false, .val I64 false], [.v I64 .own], Int, fun a => L_szSky a.1 a.2.1, fun o => ((), (o, ()))⟩
theorem g23 : FnGood Tryz.prog 23 sg23 :=
  good_of (l := [(101, sg101), (102, sg102), (103, sg103)]) (nt := 24) (io := []) ⟨fun n => match n with | _ => none, fun n => match n with | _ => none⟩ (fun z => z.2.1)
    mixed tysOK Tryz.func23 ⟨g101, ⟨g102, ⟨g103, trivial⟩⟩⟩ (by kernel_rfl) (fun _ => rfl) (fun _ => by kernel_rfl)

noncomputable def sg196 : Sig := ⟨[.val (.sl (.st .link)) false, .val I64 false], [.v I64 .own], Int, fun a => L_szLinkS a.1 a.2.1, fun o => ((), (o, ()))⟩
theorem g196 : FnGood Tryz.prog 196 sg196 :=
  good_of (l := []) (nt := 12) (io := []) ⟨fun n => match n with | _ => none, fun n => match n with | _ => none⟩ (fun z => z.2.1)
    mixed tysOK Tryz.func196 trivial (by kernel_rfl) (fun _ => rfl) (fun _ => by kernel_rfl)

noncomputable def sg26 : Sig := ⟨[.val (.sl I64) false, .val I64 false], [.v I64 .own], Int, fun a => L_szIntS a.1 a.2.1, fun o => ((), (o, ()))⟩
theorem g26 : FnGood Tryz.prog 26 sg26 :=
  good_of (l := []) (nt := 12) (io := []) ⟨fun n => match n with | _ => none, fun n => match n with | _ => none⟩ (fun z => z.2.1)
    mixed tysOK Tryz.func26 trivial (by kernel_rfl) (fun _ => rfl) (fun _ => by kernel_rfl)

noncomputable def sg214 : Sig := ⟨[.val (.st .table) false, .val I64 false], [.v I64 .own], Int, fun a => L_szTable a.1 a.2.1, fun o => ((), (o, ()))⟩
theorem g214 : FnGood Tryz.prog 214 sg214 :=
  good_of (l := [(26, sg26)]) (nt := 18) (io := []) ⟨fun n => match n with | _ => none, fun n => match n with | _ => none⟩ (fun z => z.2.1)
    mixed tysOK Tryz.func214 ⟨g26, trivial⟩ (by kernel_rfl) (fun _ => rfl) (fun _ => by kernel_rfl)

noncomputable def sg197 : Sig := ⟨[.val (.sl (.st .table)) false, .val I64 false], [.v I64 .own], Int, fun a => L_szTableS a.1 a.2.1, fun o => ((), (o, ()))⟩
theorem g197 : FnGood Tryz.prog 197 sg197 :=
  good_of (l := [(214, sg214)]) (nt := 27) (io := []) ⟨fun n => match n with | 5 => some ⟨[0, 4, 6, 7, 8, 9, 10, 11], [(1, .own I64 .own), (5, .own I64 .own)], 0, [(1, .own I64 .own)]⟩ | _ => none, fun n => match n with | _ => none⟩ (fun z => z.2.1)
    mixed tysOK Tryz.func197 ⟨g214, trivial⟩ (by kernel_rfl) (fun _ => rfl) (fun _ => by kernel_rfl)

noncomputable def sg168 : Sig := ⟨[.val (.st .piece) false, .val I64 false], [.v I64 .own], Int, fun a => L_szPiece a.1 a.2.1, fun o => ((), (o, ()))⟩
theorem g168 : FnGood Tryz.prog 168 sg168 :=
  good_of (l := [(196, sg196), (197, sg197)]) (nt := 18) (io := []) ⟨fun n => match n with | _ => none, fun n => match n with | _ => none⟩ (fun z => z.2.1)
    mixed tysOK Tryz.func168 ⟨g196, ⟨g197, trivial⟩⟩ (by kernel_rfl) (fun _ => rfl) (fun _ => by kernel_rfl)

noncomputable def sg104 : Sig := ⟨[.val (.sl (.st .piece)) false, .val I64 false], [.v I64 .own], Int, fun a => L_szPieceS a.1 a.2.1, fun o => ((), (o, ()))⟩
theorem g104 : FnGood Tryz.prog 104 sg104 :=
  good_of (l := [(168, sg168)]) (nt := 27) (io := []) ⟨fun n => match n with | 5 => some ⟨[0, 4, 6, 7, 8, 9, 10, 11], [(1, .own I64 .own), (5, .own I64 .own)], 0, [(1, .own I64 .own)]⟩ | _ => none, fun n => match n with | _ => none⟩ (fun z => z.2.1)
    mixed tysOK Tryz.func104 ⟨g168, trivial⟩ (by kernel_rfl) (fun _ => rfl) (fun _ => by kernel_rfl)

noncomputable def sg24 : Sig := ⟨[.val (.st .prog) false, .val I64 false], [.v I64 .own], Int, fun a => L_szProgram a.1 a.2.1, fun o => ((), (o, ()))⟩
theorem g24 : FnGood Tryz.prog 24 sg24 :=
  good_of (l := [(104, sg104)]) (nt := 12) (io := []) ⟨fun n => match n with | _ => none, fun n => match n with | _ => none⟩ (fun z => z.2.1)
    mixed tysOK Tryz.func24 ⟨g104, trivial⟩ (by kernel_rfl) (fun _ => rfl) (fun _ => by kernel_rfl)

noncomputable def sg25 : Sig := ⟨[.val (.st .law) false, .val I64 false], [.v I64 .own], Int, fun a => L_szLaw a.1 a.2.1, fun o => ((), (o, ()))⟩
theorem g25 : FnGood Tryz.prog 25 sg25 :=
  good_of (l := [(26, sg26)]) (nt := 12) (io := []) ⟨fun n => match n with | _ => none, fun n => match n with | _ => none⟩ (fun z => z.2.1)
    mixed tysOK Tryz.func25 ⟨g26, trivial⟩ (by kernel_rfl) (fun _ => rfl) (fun _ => by kernel_rfl)

noncomputable def sg27 : Sig := ⟨[.val (.sl (.st .battery)) false, .val I64 false], [.v I64 .own], Int, fun a => L_szBatteryS a.1 a.2.1, fun o => ((), (o, ()))⟩
theorem g27 : FnGood Tryz.prog 27 sg27 :=
  good_of (l := []) (nt := 12) (io := []) ⟨fun n => match n with | _ => none, fun n => match n with | _ => none⟩ (fun z => z.2.1)
    mixed tysOK Tryz.func27 trivial (by kernel_rfl) (fun _ => rfl) (fun _ => by kernel_rfl)

noncomputable def sg32 : Sig := ⟨[.val (.sl (.st .packet)) false, .val I64 false], [.v I64 .own], Int, fun a => L_szPacketS a.1 a.2.1, fun o => ((), (o, ()))⟩
theorem g32 : FnGood Tryz.prog 32 sg32 :=
  good_of (l := []) (nt := 12) (io := []) ⟨fun n => match n with | _ => none, fun n => match n with | _ => none⟩ (fun z => z.2.1)
    mixed tysOK Tryz.func32 trivial (by kernel_rfl) (fun _ => rfl) (fun _ => by kernel_rfl)

noncomputable def sg105 : Sig := ⟨[.val (.st .queue) false, .val I64 false], [.v I64 .own], Int, fun a => L_szQueue a.1 a.2.1, fun o => ((), (o, ()))⟩
theorem g105 : FnGood Tryz.prog 105 sg105 :=
  good_of (l := [(32, sg32)]) (nt := 12) (io := []) ⟨fun n => match n with | _ => none, fun n => match n with | _ => none⟩ (fun z => z.2.1)
    mixed tysOK Tryz.func105 ⟨g32, trivial⟩ (by kernel_rfl) (fun _ => rfl) (fun _ => by kernel_rfl)

noncomputable def sg28 : Sig := ⟨[.val (.sl (.st .queue)) false, .val I64 false], [.v I64 .own], Int, fun a => L_szQueueS a.1 a.2.1, fun o => ((), (o, ()))⟩
theorem g28 : FnGood Tryz.prog 28 sg28 :=
  good_of (l := [(105, sg105)]) (nt := 27) (io := []) ⟨fun n => match n with | 5 => some ⟨[0, 4, 6, 7, 8, 9, 10, 11], [(1, .own I64 .own), (5, .own I64 .own)], 0, [(1, .own I64 .own)]⟩ | _ => none, fun n => match n with | _ => none⟩ (fun z => z.2.1)
    mixed tysOK Tryz.func28 ⟨g105, trivial⟩ (by kernel_rfl) (fun _ => rfl) (fun _ => by kernel_rfl)

noncomputable def sg29 : Sig := ⟨[.val (.sl (.st .flow)) false, .val I64 false], [.v I64 .own], Int, fun a => L_szFlowS a.1 a.2.1, fun o => ((), (o, ()))⟩
theorem g29 : FnGood Tryz.prog 29 sg29 :=
  good_of (l := []) (nt := 12) (io := []) ⟨fun n => match n with | _ => none, fun n => match n with | _ => none⟩ (fun z => z.2.1)
    mixed tysOK Tryz.func29 trivial (by kernel_rfl) (fun _ => rfl) (fun _ => by kernel_rfl)

noncomputable def sg106 : Sig := ⟨[.val (.st .stream) false, .val I64 false], [.v I64 .own], Int, fun a => L_szStream a.1 a.2.1, fun o => ((), (o, ()))⟩
theorem g106 : FnGood Tryz.prog 106 sg106 :=
  good_of (l := [(26, sg26)]) (nt := 12) (io := []) ⟨fun n => match n with | _ => none, fun n => match n with | _ => none⟩ (fun z => z.2.1)
    mixed tysOK Tryz.func106 ⟨g26, trivial⟩ (by kernel_rfl) (fun _ => rfl) (fun _ => by kernel_rfl)

noncomputable def sg30 : Sig := ⟨[.val (.sl (.st .stream)) false, .val I64 false], [.v I64 .own], Int, fun a => L_szStreamS a.1 a.2.1, fun o => ((), (o, ()))⟩
theorem g30 : FnGood Tryz.prog 30 sg30 :=
  good_of (l := [(106, sg106)]) (nt := 27) (io := []) ⟨fun n => match n with | 5 => some ⟨[0, 4, 6, 7, 8, 9, 10, 11], [(1, .own I64 .own), (5, .own I64 .own)], 0, [(1, .own I64 .own)]⟩ | _ => none, fun n => match n with | _ => none⟩ (fun z => z.2.1)
    mixed tysOK Tryz.func30 ⟨g106, trivial⟩ (by kernel_rfl) (fun _ => rfl) (fun _ => by kernel_rfl)

noncomputable def sg31 : Sig := ⟨[.val (.sl (.st .fault)) false, .val I64 false], [.v I64 .own], Int, fun a => L_szFaultS a.1 a.2.1, fun o => ((), (o, ()))⟩
theorem g31 : FnGood Tryz.prog 31 sg31 :=
  good_of (l := []) (nt := 12) (io := []) ⟨fun n => match n with | _ => none, fun n => match n with | _ => none⟩ (fun z => z.2.1)
    mixed tysOK Tryz.func31 trivial (by kernel_rfl) (fun _ => rfl) (fun _ => by kernel_rfl)

noncomputable def sg33 : Sig := ⟨[.val (.sl (.st .sent)) false, .val I64 false], [.v I64 .own], Int, fun a => L_szSentS a.1 a.2.1, fun o => ((), (o, ()))⟩
theorem g33 : FnGood Tryz.prog 33 sg33 :=
  good_of (l := []) (nt := 12) (io := []) ⟨fun n => match n with | _ => none, fun n => match n with | _ => none⟩ (fun z => z.2.1)
    mixed tysOK Tryz.func33 trivial (by kernel_rfl) (fun _ => rfl) (fun _ => by kernel_rfl)

noncomputable def sg7 : Sig := ⟨[.val (.st .world) false, .val I64 false], [.v I64 .own], Int, fun a => L_szWorld a.1 a.2.1, fun o => ((), (o, ()))⟩
theorem g7 : FnGood Tryz.prog 7 sg7 :=
  good_of (l := [(23, sg23), (24, sg24), (25, sg25), (26, sg26), (27, sg27), (28, sg28), (29, sg29), (30, sg30), (31, sg31), (32, sg32), (33, sg33)]) (nt := 78) (io := []) ⟨fun n => match n with | _ => none, fun n => match n with | _ => none⟩ (fun z => z.2.1)
    mixed tysOK Tryz.func7 ⟨g23, ⟨g24, ⟨g25, ⟨g26, ⟨g27, ⟨g28, ⟨g29, ⟨g30, ⟨g31, ⟨g32, ⟨g33, trivial⟩⟩⟩⟩⟩⟩⟩⟩⟩⟩⟩ (by kernel_rfl) (fun _ => rfl) (fun _ => by kernel_rfl)

noncomputable def sg107 : Sig := ⟨[.val (.st .sky) false], [.v (.st .sky) .own], Sky, fun a => S_l33Sky a.1, fun o => ((), (o, ()))⟩
theorem g107 : FnGood Tryz.prog 107 sg107 :=
  good_of (l := []) (nt := 19) (io := []) ⟨fun n => match n with | _ => none, fun n => match n with | _ => none⟩ (fun z => z.2.1)
    mixed tysOK Tryz.func107 trivial (by kernel_rfl) (fun _ => rfl) (fun _ => by kernel_rfl)

noncomputable def sg169 : Sig := ⟨[.val (.st .table) false], [.v (.st .table) .own], Table, fun a => S_l15Copy a.1, fun o => ((), (o, ()))⟩
theorem g169 : FnGood Tryz.prog 169 sg169 :=
  good_of (l := []) (nt := 14) (io := []) ⟨fun n => match n with | _ => none, fun n => match n with | _ => none⟩ (fun z => z.2.1)
    mixed tysOK Tryz.func169 trivial (by kernel_rfl) (fun _ => rfl) (fun _ => by kernel_rfl)

noncomputable def sg108 : Sig := ⟨[.val (.st .prog) false], [.v (.st .prog) .own], Prog, fun a => S_l17Copy a.1, fun o => ((), (o, ()))⟩
theorem g108 : FnGood Tryz.prog 108 sg108 :=
  good_of (l := [(169, sg169)]) (nt := 69) (io := []) ⟨fun n => match n with | 3 => some ⟨[0, 1, 2, 7, 8, 9, 10, 11, 12], [(3, .box (.st .prog) .own), (4, .own I64 .own)], 0, [(3, .box (.st .prog) .own)]⟩ | 7 => some ⟨[0, 1, 2, 3, 4, 7, 8, 9, 10, 11, 12, 14, 15, 16, 17, 18, 21, 22, 23, 24, 25, 26, 28, 29, 30, 31, 32, 33], [(5, .box (.st .piece) .own), (6, .own I64 .own)], 2, [(5, .box (.st .piece) .own)]⟩ | _ => none, fun n => match n with | _ => none⟩ (fun z => z.2.1)
    mixed tysOK Tryz.func108 ⟨g169, trivial⟩ (by kernel_rfl) (fun _ => rfl) (fun _ => by kernel_rfl)

noncomputable def sg109 : Sig := ⟨[.val (.st .queue) false], [.v (.st .queue) .own], Queue, fun a => S_l24Copy a.1, fun o => ((), (o, ()))⟩
theorem g109 : FnGood Tryz.prog 109 sg109 :=
  good_of (l := []) (nt := 8) (io := []) ⟨fun n => match n with | _ => none, fun n => match n with | _ => none⟩ (fun z => z.2.1)
    mixed tysOK Tryz.func109 trivial (by kernel_rfl) (fun _ => rfl) (fun _ => by kernel_rfl)

noncomputable def sg110 : Sig := ⟨[.val (.st .stream) false], [.v (.st .stream) .own], Stream, fun a => S_l25Copy a.1, fun o => ((), (o, ()))⟩
theorem g110 : FnGood Tryz.prog 110 sg110 :=
  good_of (l := []) (nt := 12) (io := []) ⟨fun n => match n with | _ => none, fun n => match n with | _ => none⟩ (fun z => z.2.1)
    mixed tysOK Tryz.func110 trivial (by kernel_rfl) (fun _ => rfl) (fun _ => by kernel_rfl)

noncomputable def sg34 : Sig := ⟨[.val (.st .world) false], [.v (.st .world) .own], Wd, fun a => S_l33Copy a.1, fun o => ((), (o, ()))⟩
theorem g34 : FnGood Tryz.prog 34 sg34 :=
  good_of (l := [(107, sg107), (108, sg108), (109, sg109), (110, sg110)]) (nt := 94) (io := []) ⟨fun n => match n with | 4 => some ⟨[0, 1, 2, 6, 7, 9, 10, 13, 14, 15, 19, 20, 22, 23, 24, 25, 28, 29, 31], [(3, .box (.st .world) .own), (4, .own I64 .own)], 0, [(3, .box (.st .world) .own)]⟩ | 10 => some ⟨[0, 1, 2, 6, 7, 9, 10, 13, 14, 15, 19, 20, 22, 23, 24, 25, 28, 29, 31, 51, 52, 54, 56, 57, 59], [(3, .box (.st .world) .own), (5, .own I64 .own)], 2, [(3, .box (.st .world) .own)]⟩ | _ => none, fun n => match n with | _ => none⟩ (fun z => z.2.1)
    mixed tysOK Tryz.func34 ⟨g107, ⟨g108, ⟨g109, ⟨g110, trivial⟩⟩⟩⟩ (by kernel_rfl) (fun _ => rfl) (fun _ => by kernel_rfl)

noncomputable def sg111 : Sig := ⟨[.val (.st .span) false], [.v .bool .own], Bool, fun a => S_IsSpan a.1, fun o => ((), (o, ()))⟩
theorem g111 : FnGood Tryz.prog 111 sg111 :=
  good_of (l := []) (nt := 18) (io := []) ⟨fun n => match n with | _ => none, fun n => match n with | _ => none⟩ (fun z => z.2.1)
    mixed tysOK Tryz.func111 trivial (by kernel_rfl) (fun _ => rfl) (fun _ => by kernel_rfl)

noncomputable def sg35 : Sig := ⟨[.val (.st .fault) false, .val I64 false], [.v .bool .own], Bool, fun a => S_IsFault a.1 a.2.1, fun o => ((), (o, ()))⟩
theorem g35 : FnGood Tryz.prog 35 sg35 :=
  good_of (l := [(111, sg111)]) (nt := 40) (io := []) ⟨fun n => match n with | _ => none, fun n => match n with | _ => none⟩ (fun z => z.2.1)
    mixed tysOK Tryz.func35 ⟨g111, trivial⟩ (by kernel_rfl) (fun _ => rfl) (fun _ => by kernel_rfl)

noncomputable def sg8 : Sig := ⟨[.val (.st .world) false, .val (.st .fault) false], [.v (.st .world) .own, .v .bool .own], Wd × Bool, fun a => S_StepFault a.1 a.2.1, fun o => ((), (o.1, o.2, ()))⟩
theorem g8 : FnGood Tryz.prog 8 sg8 :=
  good_of (l := [(34, sg34), (35, sg35)]) (nt := 36) (io := []) ⟨fun n => match n with | _ => none, fun n => match n with | _ => none⟩ (fun z => (z.2.1, z.2.2.1))
    mixed tysOK Tryz.func8 ⟨g34, ⟨g35, trivial⟩⟩ (by kernel_rfl) (fun _ => rfl) (fun _ => by kernel_rfl)

noncomputable def sg170 : Sig := ⟨[.val (.st .sat) false], [.v (.st .sat) .own], Sat, fun a => L_toSat a.1, fun o => ((), (o, ()))⟩
theorem g170 : FnGood Tryz.prog 170 sg170 :=
  good_of (l := []) (nt := 17) (io := []) ⟨fun n => match n with | _ => none, fun n => match n with | _ => none⟩ (fun z => z.2.1)
    mixed tysOK Tryz.func170 trivial (by kernel_rfl) (fun _ => rfl) (fun _ => by kernel_rfl)

noncomputable def sg112 : Sig := ⟨[.val (.sl (.st .sat)) false], [.v (.sl (.st .sat)) .own], List Sat, fun a => L_toSatS a.1, fun o => ((), (o, ()))⟩
theorem g112 : FnGood Tryz.prog 112 sg112 :=
  good_of (l := [(170, sg170)]) (nt := 23) (io := []) ⟨fun n => match n with | 3 => some ⟨[0, 2, 5, 6], [(3, .own (.sl (.st .sat)) .own), (4, .own I64 .own)], 0, [(3, .own (.sl (.st .sat)) .own)]⟩ | _ => none, fun n => match n with | _ => none⟩ (fun z => z.2.1)
    mixed tysOK Tryz.func112 ⟨g170, trivial⟩ (by kernel_rfl) (fun _ => rfl) (fun _ => by kernel_rfl)

noncomputable def sg171 : Sig := ⟨[.val (.st .site) false], [.v (.st .site) .own], Site, fun a => L_toSite a.1, fun o => ((), (o, ()))⟩
theorem g171 : FnGood Tryz.prog 171 sg171 :=
  good_of (l := []) (nt := 14) (io := []) ⟨fun n => match n with | _ => none, fun n => match n with | _ => none⟩ (fun z => z.2.1)
    mixed tysOK Tryz.func171 trivial (by kernel_rfl) (fun _ => rfl) (fun _ => by kernel_rfl)

noncomputable def sg113 : Sig := ⟨[.val (.sl (.st .site)) false], [.v (.sl (.st .site)) .own], List Site, fun a => L_toSiteS a.1, fun o => ((), (o, ()))⟩
theorem g113 : FnGood Tryz.prog 113 sg113 :=
  good_of (l := [(171, sg171)]) (nt := 23) (io := []) ⟨fun n => match n with | 3 => some ⟨[0, 2, 5, 6], [(3, .own (.sl (.st .site)) .own), (4, .own I64 .own)], 0, [(3, .own (.sl (.st .site)) .own)]⟩ | _ => none, fun n => match n with | _ => none⟩ (fun z => z.2.1)
    mixed tysOK Tryz.func113 ⟨g171, trivial⟩ (by kernel_rfl) (fun _ => rfl) (fun _ => by kernel_rfl)

noncomputable def sg198 : Sig := ⟨[.val (.st .arc) false], [.v (.st .arc) .own], Arc, fun a => L_toArc a.1, fun o => ((), (o, ()))⟩
theorem g198 : FnGood Tryz.prog 198 sg198 :=
  good_of (l := []) (nt := 11) (io := []) ⟨fun n => match n with | _ => none, fun n => match n with | _ => none⟩ (fun z => z.2.1)
    mixed tysOK Tryz.func198 trivial (by kernel_rfl) (fun _ => rfl) (fun _ => by kernel_rfl)

noncomputable def sg172 : Sig := ⟨[.val (.st .zone) false], [.v (.st .zone) .own], Zone, fun a => L_toZone a.1, fun o => ((), (o, ()))⟩
theorem g172 : FnGood Tryz.prog 172 sg172 :=
  good_of (l := [(198, sg198)]) (nt := 12) (io := []) ⟨fun n => match n with | _ => none, fun n => match n with | _ => none⟩ (fun z => z.2.1)
    mixed tysOK Tryz.func172 ⟨g198, trivial⟩ (by kernel_rfl) (fun _ => rfl) (fun _ => by kernel_rfl)

noncomputable def sg114 : Sig := ⟨[.val (.sl (.st .zone)) false], [.v (.sl (.st .zone)) .own], List Zone, fun a => L_toZoneS a.1, fun o => ((), (o, ()))⟩
theorem g114 : FnGood Tryz.prog 114 sg114 :=
  good_of (l := [(172, sg172)]) (nt := 23) (io := []) ⟨fun n => match n with | 3 => some ⟨[0, 2, 5, 6], [(3, .own (.sl (.st .zone)) .own), (4, .own I64 .own)], 0, [(3, .own (.sl (.st .zone)) .own)]⟩ | _ => none, fun n => match n with | _ => none⟩ (fun z => z.2.1)
    mixed tysOK Tryz.func114 ⟨g172, trivial⟩ (by kernel_rfl) (fun _ => rfl) (fun _ => by kernel_rfl)

noncomputable def sg36 : Sig := ⟨[.val (.st .sky) false], [.v (.st .sky) .own], Sky, fun a => L_toSky a.1, fun o => ((), (o, ()))⟩
theorem g36 : FnGood Tryz.prog 36 sg36 :=
  good_of (l := [(112, sg112), (113, sg113), (114, sg114)]) (nt := 38) (io := []) ⟨fun n => match n with | _ => none, fun n => match n with | _ => none⟩ (fun z => z.2.1)
    mixed tysOK Tryz.func36 ⟨g112, ⟨g113, ⟨g114, trivial⟩⟩⟩ (by kernel_rfl) (fun _ => rfl) (fun _ => by kernel_rfl)

noncomputable def sg199 : Sig := ⟨[.val (.st .span) false], [.v (.st .span) .own], Span, fun a => L_toSpan a.1, fun o => ((), (o, ()))⟩
theorem g199 : FnGood Tryz.prog 199 sg199 :=
  good_of (l := []) (nt := 11) (io := []) ⟨fun n => match n with | _ => none, fun n => match n with | _ => none⟩ (fun z => z.2.1)
    mixed tysOK Tryz.func199 trivial (by kernel_rfl) (fun _ => rfl) (fun _ => by kernel_rfl)

noncomputable def sg215 : Sig := ⟨[.val (.st .link) false], [.v (.st .link) .own], Link, fun a => L_toLink a.1, fun o => ((), (o, ()))⟩
theorem g215 : FnGood Tryz.prog 215 sg215 :=
  good_of (l := []) (nt := 11) (io := []) ⟨fun n => match n with | _ => none, fun n => match n with | _ => none⟩ (fun z => z.2.1)
    mixed tysOK Tryz.func215 trivial (by kernel_rfl) (fun _ => rfl) (fun _ => by kernel_rfl)

noncomputable def sg200 : Sig := ⟨[.val (.sl (.st .link)) false], [.v (.sl (.st .link)) .own], List Link, fun a => L_toLinkS a.1, fun o => ((), (o, ()))⟩
theorem g200 : FnGood Tryz.prog 200 sg200 :=
  good_of (l := [(215, sg215)]) (nt := 23) (io := []) ⟨fun n => match n with | 3 => some ⟨[0, 2, 5, 6], [(3, .own (.sl (.st .link)) .own), (4, .own I64 .own)], 0, [(3, .own (.sl (.st .link)) .own)]⟩ | _ => none, fun n => match n with | _ => none⟩ (fun z => z.2.1)
    mixed tysOK Tryz.func200 ⟨g215, trivial⟩ (by kernel_rfl) (fun _ => rfl) (fun _ => by kernel_rfl)

noncomputable def sg39 : Sig := ⟨[.val (.sl I64) false], [.v (.sl I64) .own], List Int, fun a => L_toIntS a.1, fun o => ((), (o, ()))⟩
theorem g39 : FnGood Tryz.prog 39 sg39 :=
  good_of (l := []) (nt := 22) (io := []) ⟨fun n => match n with | 3 => some ⟨[0, 2, 5, 6], [(3, .own (.sl I64) .own), (4, .own I64 .own)], 0, [(3, .own (.sl I64) .own)]⟩ | _ => none, fun n => match n with | _ => none⟩ (fun z => z.2.1)
    mixed tysOK Tryz.func39 trivial (by kernel_rfl) (fun _ => rfl) (fun _ => by kernel_rfl)

noncomputable def sg216 : Sig := ⟨[.val (.st .table) false], [.v (.st .table) .own], Table, fun a => L_toTable a.1, fun o => ((), (o, ()))⟩
theorem g216 : FnGood Tryz.prog 216 sg216 :=
  good_of (l := [(39, sg39)]) (nt := 16) (io := []) ⟨fun n => match n with | _ => none, fun n => match n with | _ => none⟩ (fun z => z.2.1)
    mixed tysOK Tryz.func216 ⟨g39, trivial⟩ (by kernel_rfl) (fun _ => rfl) (fun _ => by kernel_rfl)

noncomputable def sg201 : Sig := ⟨[.val (.sl (.st .table)) false], [.v (.sl (.st .table)) .own], List Table, fun a => L_toTableS a.1, fun o => ((), (o, ()))⟩
theorem g201 : FnGood Tryz.prog 201 sg201 :=
  good_of (l := [(216, sg216)]) (nt := 23) (io := []) ⟨fun n => match n with | 3 => some ⟨[0, 2, 5, 6], [(3, .own (.sl (.st .table)) .own), (4, .own I64 .own)], 0, [(3, .own (.sl (.st .table)) .own)]⟩ | _ => none, fun n => match n with | _ => none⟩ (fun z => z.2.1)
    mixed tysOK Tryz.func201 ⟨g216, trivial⟩ (by kernel_rfl) (fun _ => rfl) (fun _ => by kernel_rfl)

noncomputable def sg173 : Sig := ⟨[.val (.st .piece) false], [.v (.st .piece) .own], Piece, fun a => L_toPiece a.1, fun o => ((), (o, ()))⟩
theorem g173 : FnGood Tryz.prog 173 sg173 :=
  good_of (l := [(199, sg199), (200, sg200), (201, sg201)]) (nt := 17) (io := []) ⟨fun n => match n with | _ => none, fun n => match n with | _ => none⟩ (fun z => z.2.1)
    mixed tysOK Tryz.func173 ⟨g199, ⟨g200, ⟨g201, trivial⟩⟩⟩ (by kernel_rfl) (fun _ => rfl) (fun _ => by kernel_rfl)

noncomputable def sg115 : Sig := ⟨[.val (.sl (.st .piece)) false], [.v (.sl (.st .piece)) .own], List Piece, fun a => L_toPieceS a.1, fun o => ((), (o, ()))⟩
theorem g115 : FnGood Tryz.prog 115 sg115 :=
  good_of (l := [(173, sg173)]) (nt := 23) (io := []) ⟨fun n => match n with | 3 => some ⟨[0, 2, 5, 6], [(3, .own (.sl (.st .piece)) .own), (4, .own I64 .own)], 0, [(3, .own (.sl (.st .piece)) .own)]⟩ | _ => none, fun n => match n with | _ => none⟩ (fun z => z.2.1)
    mixed tysOK Tryz.func115 ⟨g173, trivial⟩ (by kernel_rfl) (fun _ => rfl) (fun _ => by kernel_rfl)

noncomputable def sg37 : Sig := ⟨[.val (.st .prog) false], [.v (.st .prog) .own], Prog, fun a => L_toProgram a.1, fun o => ((), (o, ()))⟩
theorem g37 : FnGood Tryz.prog 37 sg37 :=
  good_of (l := [(115, sg115)]) (nt := 18) (io := []) ⟨fun n => match n with | _ => none, fun n => match n with | _ => none⟩ (fun z => z.2.1)
    mixed tysOK Tryz.func37 ⟨g115, trivial⟩ (by kernel_rfl) (fun _ => rfl) (fun _ => by kernel_rfl)

noncomputable def sg38 : Sig := ⟨[.val (.st .law) false], [.v (.st .law) .own], Law, fun a => L_toLaw a.1, fun o => ((), (o, ()))⟩
theorem g38 : FnGood Tryz.prog 38 sg38 :=
  good_of (l := [(39, sg39)]) (nt := 9) (io := []) ⟨fun n => match n with | _ => none, fun n => match n with | _ => none⟩ (fun z => z.2.1)
    mixed tysOK Tryz.func38 ⟨g39, trivial⟩ (by kernel_rfl) (fun _ => rfl) (fun _ => by kernel_rfl)

noncomputable def sg116 : Sig := ⟨[.val (.st .battery) false], [.v (.st .battery) .own], Battery, fun a => L_toBattery a.1, fun o => ((), (o, ()))⟩
theorem g116 : FnGood Tryz.prog 116 sg116 :=
  good_of (l := []) (nt := 23) (io := []) ⟨fun n => match n with | _ => none, fun n => match n with | _ => none⟩ (fun z => z.2.1)
    mixed tysOK Tryz.func116 trivial (by kernel_rfl) (fun _ => rfl) (fun _ => by kernel_rfl)

noncomputable def sg40 : Sig := ⟨[.val (.sl (.st .battery)) false], [.v (.sl (.st .battery)) .own], List Battery, fun a => L_toBatteryS a.1, fun o => ((), (o, ()))⟩
theorem g40 : FnGood Tryz.prog 40 sg40 :=
  good_of (l := [(116, sg116)]) (nt := 23) (io := []) ⟨fun n => match n with | 3 => some ⟨[0, 2, 5, 6], [(3, .own (.sl (.st .battery)) .own), (4, .own I64 .own)], 0, [(3, .own (.sl (.st .battery)) .own)]⟩ | _ => none, fun n => match n with | _ => none⟩ (fun z => z.2.1)
    mixed tysOK Tryz.func40 ⟨g116, trivial⟩ (by kernel_rfl) (fun _ => rfl) (fun _ => by kernel_rfl)

noncomputable def sg119 : Sig := ⟨[.val (.st .packet) false], [.v (.st .packet) .own], Packet, fun a => L_toPacket a.1, fun o => ((), (o, ()))⟩
theorem g119 : FnGood Tryz.prog 119 sg119 :=
  good_of (l := []) (nt := 23) (io := []) ⟨fun n => match n with | _ => none, fun n => match n with | _ => none⟩ (fun z => z.2.1)
    mixed tysOK Tryz.func119 trivial (by kernel_rfl) (fun _ => rfl) (fun _ => by kernel_rfl)

noncomputable def sg45 : Sig := ⟨[.val (.sl (.st .packet)) false], [.v (.sl (.st .packet)) .own], List Packet, fun a => L_toPacketS a.1, fun o => ((), (o, ()))⟩
theorem g45 : FnGood Tryz.prog 45 sg45 :=
  good_of (l := [(119, sg119)]) (nt := 23) (io := []) ⟨fun n => match n with | 3 => some ⟨[0, 2, 5, 6], [(3, .own (.sl (.st .packet)) .own), (4, .own I64 .own)], 0, [(3, .own (.sl (.st .packet)) .own)]⟩ | _ => none, fun n => match n with | _ => none⟩ (fun z => z.2.1)
    mixed tysOK Tryz.func45 ⟨g119, trivial⟩ (by kernel_rfl) (fun _ => rfl) (fun _ => by kernel_rfl)

noncomputable def sg117 : Sig := ⟨[.val (.st .queue) false], [.v (.st .queue) .own], Queue, fun a => L_toQueue a.1, fun o => ((), (o, ()))⟩
theorem g117 : FnGood Tryz.prog 117 sg117 :=
  good_of (l := [(45, sg45)]) (nt := 9) (io := []) ⟨fun n => match n with | _ => none, fun n => match n with | _ => none⟩ (fun z => z.2.1)
    mixed tysOK Tryz.func117 ⟨g45, trivial⟩ (by kernel_rfl) (fun _ => rfl) (fun _ => by kernel_rfl)

noncomputable def sg41 : Sig := ⟨[.val (.sl (.st .queue)) false], [.v (.sl (.st .queue)) .own], List Queue, fun a => L_toQueueS a.1, fun o => ((), (o, ()))⟩
theorem g41 : FnGood Tryz.prog 41 sg41 :=
  good_of (l := [(117, sg117)]) (nt := 23) (io := []) ⟨fun n => match n with | 3 => some ⟨[0, 2, 5, 6], [(3, .own (.sl (.st .queue)) .own), (4, .own I64 .own)], 0, [(3, .own (.sl (.st .queue)) .own)]⟩ | _ => none, fun n => match n with | _ => none⟩ (fun z => z.2.1)
    mixed tysOK Tryz.func41 ⟨g117, trivial⟩ (by kernel_rfl) (fun _ => rfl) (fun _ => by kernel_rfl)

noncomputable def sg18 : Sig := ⟨[.val (.st .flow) false], [.v (.st .flow) .own], Flow, fun a => L_toFlow a.1, fun o => ((), (o, ()))⟩
theorem g18 : FnGood Tryz.prog 18 sg18 :=
  good_of (l := []) (nt := 17) (io := []) ⟨fun n => match n with | _ => none, fun n => match n with | _ => none⟩ (fun z => z.2.1)
    mixed tysOK Tryz.func18 trivial (by kernel_rfl) (fun _ => rfl) (fun _ => by kernel_rfl)

noncomputable def sg42 : Sig := ⟨[.val (.sl (.st .flow)) false], [.v (.sl (.st .flow)) .own], List Flow, fun a => L_toFlowS a.1, fun o => ((), (o, ()))⟩
theorem g42 : FnGood Tryz.prog 42 sg42 :=
  good_of (l := [(18, sg18)]) (nt := 23) (io := []) ⟨fun n => match n with | 3 => some ⟨[0, 2, 5, 6], [(3, .own (.sl (.st .flow)) .own), (4, .own I64 .own)], 0, [(3, .own (.sl (.st .flow)) .own)]⟩ | _ => none, fun n => match n with | _ => none⟩ (fun z => z.2.1)
    mixed tysOK Tryz.func42 ⟨g18, trivial⟩ (by kernel_rfl) (fun _ => rfl) (fun _ => by kernel_rfl)

noncomputable def sg118 : Sig := ⟨[.val (.st .stream) false], [.v (.st .stream) .own], Stream, fun a => L_toStream a.1, fun o => ((), (o, ()))⟩
theorem g118 : FnGood Tryz.prog 118 sg118 :=
  good_of (l := [(39, sg39)]) (nt := 15) (io := []) ⟨fun n => match n with | _ => none, fun n => match n with | _ => none⟩ (fun z => z.2.1)
    mixed tysOK Tryz.func118 ⟨g39, trivial⟩ (by kernel_rfl) (fun _ => rfl) (fun _ => by kernel_rfl)

noncomputable def sg43 : Sig := ⟨[.val (.sl (.st .stream)) false], [.v (.sl (.st .stream)) .own], List Stream, fun a => L_toStreamS a.1, fun o => ((), (o, ()))⟩
theorem g43 : FnGood Tryz.prog 43 sg43 :=
  good_of (l := [(118, sg118)]) (nt := 23) (io := []) ⟨fun n => match n with | 3 => some ⟨[0, 2, 5, 6], [(3, .own (.sl (.st .stream)) .own), (4, .own I64 .own)], 0, [(3, .own (.sl (.st .stream)) .own)]⟩ | _ => none, fun n => match n with | _ => none⟩ (fun z => z.2.1)
    mixed tysOK Tryz.func43 ⟨g118, trivial⟩ (by kernel_rfl) (fun _ => rfl) (fun _ => by kernel_rfl)

noncomputable def sg10 : Sig := ⟨[.val (.st .fault) false], [.v (.st .fault) .own], Fault, fun a => L_toFault a.1, fun o => ((), (o, ()))⟩
theorem g10 : FnGood Tryz.prog 10 sg10 :=
  good_of (l := []) (nt := 17) (io := []) ⟨fun n => match n with | _ => none, fun n => match n with | _ => none⟩ (fun z => z.2.1)
    mixed tysOK Tryz.func10 trivial (by kernel_rfl) (fun _ => rfl) (fun _ => by kernel_rfl)

noncomputable def sg44 : Sig := ⟨[.val (.sl (.st .fault)) false], [.v (.sl (.st .fault)) .own], List Fault, fun a => L_toFaultS a.1, fun o => ((), (o, ()))⟩
theorem g44 : FnGood Tryz.prog 44 sg44 :=
  good_of (l := [(10, sg10)]) (nt := 23) (io := []) ⟨fun n => match n with | 3 => some ⟨[0, 2, 5, 6], [(3, .own (.sl (.st .fault)) .own), (4, .own I64 .own)], 0, [(3, .own (.sl (.st .fault)) .own)]⟩ | _ => none, fun n => match n with | _ => none⟩ (fun z => z.2.1)
    mixed tysOK Tryz.func44 ⟨g10, trivial⟩ (by kernel_rfl) (fun _ => rfl) (fun _ => by kernel_rfl)

noncomputable def sg21 : Sig := ⟨[.val (.st .sent) false], [.v (.st .sent) .own], Sent, fun a => L_toSent a.1, fun o => ((), (o, ()))⟩
theorem g21 : FnGood Tryz.prog 21 sg21 :=
  good_of (l := []) (nt := 17) (io := []) ⟨fun n => match n with | _ => none, fun n => match n with | _ => none⟩ (fun z => z.2.1)
    mixed tysOK Tryz.func21 trivial (by kernel_rfl) (fun _ => rfl) (fun _ => by kernel_rfl)

noncomputable def sg46 : Sig := ⟨[.val (.sl (.st .sent)) false], [.v (.sl (.st .sent)) .own], List Sent, fun a => L_toSentS a.1, fun o => ((), (o, ()))⟩
theorem g46 : FnGood Tryz.prog 46 sg46 :=
  good_of (l := [(21, sg21)]) (nt := 23) (io := []) ⟨fun n => match n with | 3 => some ⟨[0, 2, 5, 6], [(3, .own (.sl (.st .sent)) .own), (4, .own I64 .own)], 0, [(3, .own (.sl (.st .sent)) .own)]⟩ | _ => none, fun n => match n with | _ => none⟩ (fun z => z.2.1)
    mixed tysOK Tryz.func46 ⟨g21, trivial⟩ (by kernel_rfl) (fun _ => rfl) (fun _ => by kernel_rfl)

noncomputable def sg9 : Sig := ⟨[.val (.st .world) false], [.v (.st .world) .own], Wd, fun a => L_toWorld a.1, fun o => ((), (o, ()))⟩
theorem g9 : FnGood Tryz.prog 9 sg9 :=
  good_of (l := [(36, sg36), (37, sg37), (38, sg38), (39, sg39), (40, sg40), (41, sg41), (42, sg42), (43, sg43), (44, sg44), (45, sg45), (46, sg46)]) (nt := 59) (io := []) ⟨fun n => match n with | _ => none, fun n => match n with | _ => none⟩ (fun z => z.2.1)
    mixed tysOK Tryz.func9 ⟨g36, ⟨g37, ⟨g38, ⟨g39, ⟨g40, ⟨g41, ⟨g42, ⟨g43, ⟨g44, ⟨g45, ⟨g46, trivial⟩⟩⟩⟩⟩⟩⟩⟩⟩⟩⟩ (by kernel_rfl) (fun _ => rfl) (fun _ => by kernel_rfl)

noncomputable def sg174 : Sig := ⟨[.val (.sl (.st .sat)) false], [.v (.sl (.st .sat)) .own], List Sat, fun a => Clone a.1, fun o => ((), (o, ()))⟩
theorem g174 : FnGood Tryz.prog 174 sg174 := clone_good (T := 45) (T' := 45) (nt := 8) (e := (.st .sat)) mixed tysOK Tryz.func174 rfl rfl (by kernel_rfl) (by decide) rfl rfl rfl rfl (fun _ => by kernel_rfl) (fun _ => by kernel_rfl) (fun _ => by kernel_rfl) (fun _ => by kernel_rfl)

noncomputable def sg175 : Sig := ⟨[.val (.sl (.st .site)) false], [.v (.sl (.st .site)) .own], List Site, fun a => Clone a.1, fun o => ((), (o, ()))⟩
theorem g175 : FnGood Tryz.prog 175 sg175 := clone_good (T := 46) (T' := 46) (nt := 8) (e := (.st .site)) mixed tysOK Tryz.func175 rfl rfl (by kernel_rfl) (by decide) rfl rfl rfl rfl (fun _ => by kernel_rfl) (fun _ => by kernel_rfl) (fun _ => by kernel_rfl) (fun _ => by kernel_rfl)

noncomputable def sg176 : Sig := ⟨[.val (.sl (.st .zone)) false], [.v (.sl (.st .zone)) .own], List Zone, fun a => Clone a.1, fun o => ((), (o, ()))⟩
theorem g176 : FnGood Tryz.prog 176 sg176 := clone_good (T := 47) (T' := 47) (nt := 8) (e := (.st .zone)) mixed tysOK Tryz.func176 rfl rfl (by kernel_rfl) (by decide) rfl rfl rfl rfl (fun _ => by kernel_rfl) (fun _ => by kernel_rfl) (fun _ => by kernel_rfl) (fun _ => by kernel_rfl)

noncomputable def sg120 : Sig := ⟨[.val (.st .sky) false], [.v (.st .sky) .own], Sky, fun a => I_cloneSky a.1, fun o => ((), (o, ()))⟩
theorem g120 : FnGood Tryz.prog 120 sg120 :=
  good_of (l := [(174, sg174), (175, sg175), (176, sg176)]) (nt := 16) (io := []) ⟨fun n => match n with | _ => none, fun n => match n with | _ => none⟩ (fun z => z.2.1)
    mixed tysOK Tryz.func120 ⟨g174, ⟨g175, ⟨g176, trivial⟩⟩⟩ (by kernel_rfl) (fun _ => rfl) (fun _ => by kernel_rfl)

noncomputable def sg202 : Sig := ⟨[.val (.sl (.st .link)) false], [.v (.sl (.st .link)) .own], List Link, fun a => Clone a.1, fun o => ((), (o, ()))⟩
theorem g202 : FnGood Tryz.prog 202 sg202 := clone_good (T := 217) (T' := 217) (nt := 8) (e := (.st .link)) mixed tysOK Tryz.func202 rfl rfl (by kernel_rfl) (by decide) rfl rfl rfl rfl (fun _ => by kernel_rfl) (fun _ => by kernel_rfl) (fun _ => by kernel_rfl) (fun _ => by kernel_rfl)

noncomputable def sg177 : Sig := ⟨[.val (.sl (.st .link)) false], [.v (.sl (.st .link)) .own], List Link, fun a => I_cloneLinks a.1, fun o => ((), (o, ()))⟩
theorem g177 : FnGood Tryz.prog 177 sg177 :=
  good_of (l := [(202, sg202)]) (nt := 5) (io := []) ⟨fun n => match n with | _ => none, fun n => match n with | _ => none⟩ (fun z => z.2.1)
    mixed tysOK Tryz.func177 ⟨g202, trivial⟩ (by kernel_rfl) (fun _ => rfl) (fun _ => by kernel_rfl)

noncomputable def sg122 : Sig := ⟨[.val (.sl I64) false], [.v (.sl I64) .own], List Int, fun a => Clone a.1, fun o => ((), (o, ()))⟩
theorem g122 : FnGood Tryz.prog 122 sg122 := clone_good (T := 30) (T' := 30) (nt := 8) (e := I64) mixed tysOK Tryz.func122 rfl rfl (by kernel_rfl) (by decide) rfl rfl rfl rfl (fun _ => by kernel_rfl) (fun _ => by kernel_rfl) (fun _ => by kernel_rfl) (fun _ => by kernel_rfl)

noncomputable def sg178 : Sig := ⟨[.val (.st .table) false], [.v (.st .table) .own], Table, fun a => I_cloneTable a.1, fun o => ((), (o, ()))⟩
theorem g178 : FnGood Tryz.prog 178 sg178 :=
  good_of (l := [(122, sg122)]) (nt := 12) (io := []) ⟨fun n => match n with | _ => none, fun n => match n with | _ => none⟩ (fun z => z.2.1)
    mixed tysOK Tryz.func178 ⟨g122, trivial⟩ (by kernel_rfl) (fun _ => rfl) (fun _ => by kernel_rfl)

noncomputable def sg121 : Sig := ⟨[.val (.st .prog) false], [.v (.st .prog) .own], Prog, fun a => I_cloneProgram a.1, fun o => ((), (o, ()))⟩
theorem g121 : FnGood Tryz.prog 121 sg121 :=
  good_of (l := [(177, sg177), (178, sg178)]) (nt := 46) (io := []) ⟨fun n => match n with | 3 => some ⟨[0, 1, 2, 10, 11, 12], [(3, .own (.sl (.st .piece)) .own), (13, .own I64 .own)], 0, [(3, .own (.sl (.st .piece)) .own)]⟩ | 7 => some ⟨[0, 1, 2, 3, 5, 10, 11, 12, 13, 14, 15, 16, 17, 18, 19, 20, 23, 24, 25], [(6, .box (.st .piece) .own), (26, .own I64 .own)], 2, [(6, .box (.st .piece) .own)]⟩ | _ => none, fun n => match n with | _ => none⟩ (fun z => z.2.1)
    mixed tysOK Tryz.func121 ⟨g177, ⟨g178, trivial⟩⟩ (by kernel_rfl) (fun _ => rfl) (fun _ => by kernel_rfl)

noncomputable def sg123 : Sig := ⟨[.val (.sl (.st .battery)) false], [.v (.sl (.st .battery)) .own], List Battery, fun a => Clone a.1, fun o => ((), (o, ()))⟩
theorem g123 : FnGood Tryz.prog 123 sg123 := clone_good (T := 54) (T' := 54) (nt := 8) (e := (.st .battery)) mixed tysOK Tryz.func123 rfl rfl (by kernel_rfl) (by decide) rfl rfl rfl rfl (fun _ => by kernel_rfl) (fun _ => by kernel_rfl) (fun _ => by kernel_rfl) (fun _ => by kernel_rfl)

noncomputable def sg124 : Sig := ⟨[.val (.sl (.st .flow)) false], [.v (.sl (.st .flow)) .own], List Flow, fun a => Clone a.1, fun o => ((), (o, ()))⟩
theorem g124 : FnGood Tryz.prog 124 sg124 := clone_good (T := 56) (T' := 56) (nt := 8) (e := (.st .flow)) mixed tysOK Tryz.func124 rfl rfl (by kernel_rfl) (by decide) rfl rfl rfl rfl (fun _ => by kernel_rfl) (fun _ => by kernel_rfl) (fun _ => by kernel_rfl) (fun _ => by kernel_rfl)

noncomputable def sg125 : Sig := ⟨[.val (.sl (.st .fault)) false], [.v (.sl (.st .fault)) .own], List Fault, fun a => Clone a.1, fun o => ((), (o, ()))⟩
theorem g125 : FnGood Tryz.prog 125 sg125 := clone_good (T := 58) (T' := 58) (nt := 8) (e := (.st .fault)) mixed tysOK Tryz.func125 rfl rfl (by kernel_rfl) (by decide) rfl rfl rfl rfl (fun _ => by kernel_rfl) (fun _ => by kernel_rfl) (fun _ => by kernel_rfl) (fun _ => by kernel_rfl)

noncomputable def sg126 : Sig := ⟨[.val (.sl (.st .packet)) false], [.v (.sl (.st .packet)) .own], List Packet, fun a => Clone a.1, fun o => ((), (o, ()))⟩
theorem g126 : FnGood Tryz.prog 126 sg126 := clone_good (T := 59) (T' := 59) (nt := 8) (e := (.st .packet)) mixed tysOK Tryz.func126 rfl rfl (by kernel_rfl) (by decide) rfl rfl rfl rfl (fun _ => by kernel_rfl) (fun _ => by kernel_rfl) (fun _ => by kernel_rfl) (fun _ => by kernel_rfl)

noncomputable def sg127 : Sig := ⟨[.val (.sl (.st .sent)) false], [.v (.sl (.st .sent)) .own], List Sent, fun a => Clone a.1, fun o => ((), (o, ()))⟩
theorem g127 : FnGood Tryz.prog 127 sg127 := clone_good (T := 60) (T' := 60) (nt := 8) (e := (.st .sent)) mixed tysOK Tryz.func127 rfl rfl (by kernel_rfl) (by decide) rfl rfl rfl rfl (fun _ => by kernel_rfl) (fun _ => by kernel_rfl) (fun _ => by kernel_rfl) (fun _ => by kernel_rfl)

noncomputable def sg128 : Sig := ⟨[.val (.st .queue) false], [.v (.st .queue) .own], Queue, fun a => I_cloneQueue a.1, fun o => ((), (o, ()))⟩
theorem g128 : FnGood Tryz.prog 128 sg128 :=
  good_of (l := [(126, sg126)]) (nt := 7) (io := []) ⟨fun n => match n with | _ => none, fun n => match n with | _ => none⟩ (fun z => z.2.1)
    mixed tysOK Tryz.func128 ⟨g126, trivial⟩ (by kernel_rfl) (fun _ => rfl) (fun _ => by kernel_rfl)

noncomputable def sg129 : Sig := ⟨[.val (.st .stream) false], [.v (.st .stream) .own], Stream, fun a => I_cloneStream a.1, fun o => ((), (o, ()))⟩
theorem g129 : FnGood Tryz.prog 129 sg129 :=
  good_of (l := [(122, sg122)]) (nt := 8) (io := []) ⟨fun n => match n with | _ => none, fun n => match n with | _ => none⟩ (fun z => z.2.1)
    mixed tysOK Tryz.func129 ⟨g122, trivial⟩ (by kernel_rfl) (fun _ => rfl) (fun _ => by kernel_rfl)

noncomputable def sg47 : Sig := ⟨[.val (.st .world) false], [.v (.st .world) .own], Wd, fun a => I_cloneWorld a.1, fun o => ((), (o, ()))⟩
theorem g47 : FnGood Tryz.prog 47 sg47 :=
  good_of (l := [(120, sg120), (121, sg121), (122, sg122), (123, sg123), (124, sg124), (125, sg125), (126, sg126), (127, sg127), (128, sg128), (129, sg129)]) (nt := 84) (io := []) ⟨fun n => match n with | 7 => some ⟨[0, 1, 2, 8, 9, 10, 12, 13, 15, 16, 17, 20, 21, 22, 23, 24, 26, 27, 29, 30, 32, 33, 35, 36, 37, 38, 39, 40, 42, 43, 45, 46, 48, 49, 50, 51, 52, 53, 54, 55], [(3, .box (.st .world) .own), (56, .own I64 .own)], 0, [(3, .box (.st .world) .own)]⟩ | 12 => some ⟨[0, 1, 2, 8, 9, 10, 12, 13, 15, 16, 17, 20, 21, 22, 23, 24, 26, 27, 29, 30, 32, 33, 35, 36, 37, 38, 39, 40, 42, 43, 45, 46, 48, 49, 50, 51, 52, 53, 54, 55, 68, 69, 70], [(3, .box (.st .world) .own), (71, .own I64 .own)], 2, [(3, .box (.st .world) .own)]⟩ | _ => none, fun n => match n with | _ => none⟩ (fun z => z.2.1)
    mixed tysOK Tryz.func47 ⟨g120, ⟨g121, ⟨g122, ⟨g123, ⟨g124, ⟨g125, ⟨g126, ⟨g127, ⟨g128, ⟨g129, trivial⟩⟩⟩⟩⟩⟩⟩⟩⟩⟩ (by kernel_rfl) (fun _ => rfl) (fun _ => by kernel_rfl)

noncomputable def sg86 : Sig := ⟨[.val I64 false, .val I64 false], [.v .bool .own], Bool, fun a => I_isIndex a.1 a.2.1, fun o => ((), (o, ()))⟩
theorem g86 : FnGood Tryz.prog 86 sg86 :=
  good_of (l := []) (nt := 12) (io := []) ⟨fun n => match n with | _ => none, fun n => match n with | _ => none⟩ (fun z => z.2.1)
    mixed tysOK Tryz.func86 trivial (by kernel_rfl) (fun _ => rfl) (fun _ => by kernel_rfl)

noncomputable def sg130 : Sig := ⟨[.val I64 false, .val I64 false, .val I64 false], [.v .bool .own], Bool, fun a => I_InRange a.1 a.2.1 a.2.2.1, fun o => ((), (o, ()))⟩
theorem g130 : FnGood Tryz.prog 130 sg130 :=
  good_of (l := []) (nt := 15) (io := []) ⟨fun n => match n with | _ => none, fun n => match n with | _ => none⟩ (fun z => z.2.1)
    mixed tysOK Tryz.func130 trivial (by kernel_rfl) (fun _ => rfl) (fun _ => by kernel_rfl)

noncomputable def sg131 : Sig := ⟨[.val (.st .span) false], [.v .bool .own], Bool, fun a => I_IsSpan a.1, fun o => ((), (o, ()))⟩
theorem g131 : FnGood Tryz.prog 131 sg131 :=
  good_of (l := []) (nt := 18) (io := []) ⟨fun n => match n with | _ => none, fun n => match n with | _ => none⟩ (fun z => z.2.1)
    mixed tysOK Tryz.func131 trivial (by kernel_rfl) (fun _ => rfl) (fun _ => by kernel_rfl)

noncomputable def sg48 : Sig := ⟨[.val (.st .fault) false, .val I64 false], [.v .bool .own], Bool, fun a => I_IsFault a.1 a.2.1, fun o => ((), (o, ()))⟩
theorem g48 : FnGood Tryz.prog 48 sg48 :=
  good_of (l := [(86, sg86), (130, sg130), (131, sg131)]) (nt := 31) (io := []) ⟨fun n => match n with | _ => none, fun n => match n with | _ => none⟩ (fun z => z.2.1)
    mixed tysOK Tryz.func48 ⟨g86, ⟨g130, ⟨g131, trivial⟩⟩⟩ (by kernel_rfl) (fun _ => rfl) (fun _ => by kernel_rfl)

noncomputable def sg11 : Sig := ⟨[.val (.st .world) false, .val (.st .fault) false], [.v (.st .world) .own, .v .bool .own], Wd × Bool, fun a => I_StepFault a.1 a.2.1, fun o => ((), (o.1, o.2, ()))⟩
theorem g11 : FnGood Tryz.prog 11 sg11 :=
  good_of (l := [(47, sg47), (48, sg48)]) (nt := 36) (io := []) ⟨fun n => match n with | _ => none, fun n => match n with | _ => none⟩ (fun z => (z.2.1, z.2.2.1))
    mixed tysOK Tryz.func11 ⟨g47, ⟨g48, trivial⟩⟩ (by kernel_rfl) (fun _ => rfl) (fun _ => by kernel_rfl)

noncomputable def sg179 : Sig := ⟨[.val (.st .sat) false, .val (.st .sat) false], [.v .bool .own], Bool, fun a => L_eqSat a.1 a.2.1, fun o => ((), (o, ()))⟩
theorem g179 : FnGood Tryz.prog 179 sg179 :=
  good_of (l := []) (nt := 25) (io := []) ⟨fun n => match n with | _ => none, fun n => match n with | _ => none⟩ (fun z => z.2.1)
    mixed tysOK Tryz.func179 trivial (by kernel_rfl) (fun _ => rfl) (fun _ => by kernel_rfl)

noncomputable def sg132 : Sig := ⟨[.val (.sl (.st .sat)) false, .val (.sl (.st .sat)) false], [.v .bool .own], Bool, fun a => L_eqSatS a.1 a.2.1, fun o => ((), (o, ()))⟩
theorem g132 : FnGood Tryz.prog 132 sg132 :=
  good_of (l := [(179, sg179)]) (nt := 27) (io := []) ⟨fun n => match n with | 4 => some ⟨[0, 1, 4, 6, 7, 8, 9, 10], [(5, .own I64 .own)], 0, []⟩ | _ => none, fun n => match n with | _ => none⟩ (fun z => z.2.1)
    mixed tysOK Tryz.func132 ⟨g179, trivial⟩ (by kernel_rfl) (fun _ => rfl) (fun _ => by kernel_rfl)

noncomputable def sg180 : Sig := ⟨[.val (.st .site) false, .val (.st .site) false], [.v .bool .own], Bool, fun a => L_eqSite a.1 a.2.1, fun o => ((), (o, ()))⟩
theorem g180 : FnGood Tryz.prog 180 sg180 :=
  good_of (l := []) (nt := 20) (io := []) ⟨fun n => match n with | _ => none, fun n => match n with | _ => none⟩ (fun z => z.2.1)
    mixed tysOK Tryz.func180 trivial (by kernel_rfl) (fun _ => rfl) (fun _ => by kernel_rfl)

noncomputable def sg133 : Sig := ⟨[.val (.sl (.st .site)) false, .val (.sl (.st .site)) false], [.v .bool .own], Bool, fun a => L_eqSiteS a.1 a.2.1, fun o => ((), (o, ()))⟩
theorem g133 : FnGood Tryz.prog 133 sg133 :=
  good_of (l := [(180, sg180)]) (nt := 27) (io := []) ⟨fun n => match n with | 4 => some ⟨[0, 1, 4, 6, 7, 8, 9, 10], [(5, .own I64 .own)], 0, []⟩ | _ => none, fun n => match n with | _ => none⟩ (fun z => z.2.1)
    mixed tysOK Tryz.func133 ⟨g180, trivial⟩ (by kernel_rfl) (fun _ => rfl) (fun _ => by kernel_rfl)

noncomputable def sg203 : Sig := ⟨[.val (.st .arc) false, .val (.st .arc) false], [.v .bool .own], Bool, fun a => L_eqArc a.1 a.2.1, fun o => ((), (o, ()))⟩
theorem g203 : FnGood Tryz.prog 203 sg203 :=
  good_of (l := []) (nt := 15) (io := []) ⟨fun n => match n with | _ => none, fun n => match n with | _ => none⟩ (fun z => z.2.1)
    mixed tysOK Tryz.func203 trivial (by kernel_rfl) (fun _ => rfl) (fun _ => by kernel_rfl)

noncomputable def sg181 : Sig := ⟨[.val (.st .zone) false, .val (.st .zone) false], [.v .bool .own], Bool, fun a => L_eqZone a.1 a.2.1, fun o => ((), (o, ()))⟩
theorem g181 : FnGood Tryz.prog 181 sg181 :=
  good_of (l := [(203, sg203)]) (nt := 16) (io := []) ⟨fun n => match n with | _ => none, fun n => match n with | _ => none⟩ (fun z => z.2.1)
    mixed tysOK Tryz.func181 ⟨g203, trivial⟩ (by kernel_rfl) (fun _ => rfl) (fun _ => by kernel_rfl)

noncomputable def sg134 : Sig := ⟨[.val (.sl (.st .zone)) false, .val (.sl (.st .zone)) false], [.v .bool .own], Bool, fun a => L_eqZoneS a.1 a.2.1, fun o => ((), (o, ()))⟩
theorem g134 : FnGood Tryz.prog 134 sg134 :=
  good_of (l := [(181, sg181)]) (nt := 27) (io := []) ⟨fun n => match n with | 4 => some ⟨[0, 1, 4, 6, 7, 8, 9, 10], [(5, .own I64 .own)], 0, []⟩ | _ => none, fun n => match n with | _ => none⟩ (fun z => z.2.1)
    mixed tysOK Tryz.func134 ⟨g181, trivial⟩ (by kernel_rfl) (fun _ => rfl) (fun _ => by kernel_rfl)

noncomputable def sg49 : Sig := ⟨[.val (.st .sky) false, .val (.st .sky) false], [.v .bool .own], Bool, fun a => L_eqSky a.1 a.2.1, fun o => ((), (o, ()))⟩
theorem g49 : FnGood Tryz.prog 49 sg49 :=
  good_of (l := [(132, sg132), (133, sg133), (134, sg134)]) (nt := 58) (io := []) ⟨fun n => match n with | _ => none, fun n => match n with | _ => none⟩ (fun z => z.2.1)
    mixed tysOK Tryz.func49 ⟨g132, ⟨g133, ⟨g134, trivial⟩⟩⟩ (by kernel_rfl) (fun _ => rfl) (fun _ => by kernel_rfl)

noncomputable def sg204 : Sig := ⟨[.val (.st .span) false, .val (.st .span) false], [.v .bool .own], Bool, fun a => L_eqSpan a.1 a.2.1, fun o => ((), (o, ()))⟩
theorem g204 : FnGood Tryz.prog 204 sg204 :=
  good_of (l := []) (nt := 15) (io := []) ⟨fun n => match n with | _ => none, fun n => match n with | _ => none⟩ (fun z => z.2.1)
    mixed tysOK Tryz.func204 trivial (by kernel_rfl) (fun _ => rfl) (fun _ => by kernel_rfl)

noncomputable def sg217 : Sig := ⟨[.val (.st .link) false, .val (.st .link) false], [.v .bool .own], Bool, fun a => L_eqLink a.1 a.2.1, fun o => ((), (o, ()))⟩
theorem g217 : FnGood Tryz.prog 217 sg217 :=
  good_of (l := []) (nt := 15) (io := []) ⟨fun n => match n with | _ => none, fun n => match n with | _ => none⟩ (fun z => z.2.1)
    mixed tysOK Tryz.func217 trivial (by kernel_rfl) (fun _ => rfl) (fun _ => by kernel_rfl)

noncomputable def sg205 : Sig := ⟨[.val (.sl (.st .link)) false, .val (.sl (.st .link)) false], [.v .bool .own], Bool, fun a => L_eqLinkS a.1 a.2.1, fun o => ((), (o, ()))⟩
theorem g205 : FnGood Tryz.prog 205 sg205 :=
  good_of (l := [(217, sg217)]) (nt := 27) (io := []) ⟨fun n => match n with | 4 => some ⟨[0, 1, 4, 6, 7, 8, 9, 10], [(5, .own I64 .own)], 0, []⟩ | _ => none, fun n => match n with | _ => none⟩ (fun z => z.2.1)
    mixed tysOK Tryz.func205 ⟨g217, trivial⟩ (by kernel_rfl) (fun _ => rfl) (fun _ => by kernel_rfl)

noncomputable def sg52 : Sig := ⟨[.val (.sl I64) false, .val (.sl I64) false], [.v .bool .own], Bool, fun a => L_eqIntS a.1 a.2.1, fun o => ((), (o, ()))⟩
theorem g52 : FnGood Tryz.prog 52 sg52 :=
  good_of (l := []) (nt := 26) (io := []) ⟨fun n => match n with | 4 => some ⟨[0, 1, 4, 6, 7, 8, 9, 10], [(5, .own I64 .own)], 0, []⟩ | _ => none, fun n => match n with | _ => none⟩ (fun z => z.2.1)
    mixed tysOK Tryz.func52 trivial (by kernel_rfl) (fun _ => rfl) (fun _ => by kernel_rfl)

noncomputable def sg218 : Sig := ⟨[.val (.st .table) false, .val (.st .table) false], [.v .bool .own], Bool, fun a => L_eqTable a.1 a.2.1, fun o => ((), (o, ()))⟩
theorem g218 : FnGood Tryz.prog 218 sg218 :=
  good_of (l := [(52, sg52)]) (nt := 22) (io := []) ⟨fun n => match n with | _ => none, fun n => match n with | _ => none⟩ (fun z => z.2.1)
    mixed tysOK Tryz.func218 ⟨g52, trivial⟩ (by kernel_rfl) (fun _ => rfl) (fun _ => by kernel_rfl)

noncomputable def sg206 : Sig := ⟨[.val (.sl (.st .table)) false, .val (.sl (.st .table)) false], [.v .bool .own], Bool, fun a => L_eqTableS a.1 a.2.1, fun o => ((), (o, ()))⟩
theorem g206 : FnGood Tryz.prog 206 sg206 :=
  good_of (l := [(218, sg218)]) (nt := 27) (io := []) ⟨fun n => match n with | 4 => some ⟨[0, 1, 4, 6, 7, 8, 9, 10], [(5, .own I64 .own)], 0, []⟩ | _ => none, fun n => match n with | _ => none⟩ (fun z => z.2.1)
    mixed tysOK Tryz.func206 ⟨g218, trivial⟩ (by kernel_rfl) (fun _ => rfl) (fun _ => by kernel_rfl)

noncomputable def sg182 : Sig := ⟨[.val (.st .piece) false, .val (.st .piece) false], [.v .bool .own], Bool, fun a => L_eqPiece a.1 a.2.1, fun o => ((), (o, ()))⟩
theorem g182 : FnGood Tryz.prog 182 sg182 :=
  good_of (l := [(204, sg204), (205, sg205), (206, sg206)]) (nt := 23) (io := []) ⟨fun n => match n with | _ => none, fun n => match n with | _ => none⟩ (fun z => z.2.1)
    mixed tysOK Tryz.func182 ⟨g204, ⟨g205, ⟨g206, trivial⟩⟩⟩ (by kernel_rfl) (fun _ => rfl) (fun _ => by kernel_rfl)

noncomputable def sg135 : Sig := ⟨[.val (.sl (.st .piece)) false, .val (.sl (.st .piece)) false], [.v .bool .own], Bool, fun a => L_eqPieceS a.1 a.2.1, fun o => ((), (o, ()))⟩
theorem g135 : FnGood Tryz.prog 135 sg135 :=
  good_of (l := [(182, sg182)]) (nt := 27) (io := []) ⟨fun n => match n with | 4 => some ⟨[0, 1, 4, 6, 7, 8, 9, 10], [(5, .own I64 .own)], 0, []⟩ | _ => none, fun n => match n with | _ => none⟩ (fun z => z.2.1)
    mixed tysOK Tryz.func135 ⟨g182, trivial⟩ (by kernel_rfl) (fun _ => rfl) (fun _ => by kernel_rfl)

noncomputable def sg50 : Sig := ⟨[.val (.st .prog) false, .val (.st .prog) false], [.v .bool .own], Bool, fun a => L_eqProgram a.1 a.2.1, fun o => ((), (o, ()))⟩
theorem g50 : FnGood Tryz.prog 50 sg50 :=
  good_of (l := [(135, sg135)]) (nt := 26) (io := []) ⟨fun n => match n with | _ => none, fun n => match n with | _ => none⟩ (fun z => z.2.1)
    mixed tysOK Tryz.func50 ⟨g135, trivial⟩ (by kernel_rfl) (fun _ => rfl) (fun _ => by kernel_rfl)

noncomputable def sg51 : Sig := ⟨[.val (.st .law) false, .val (.st .law) false], [.v .bool .own], Bool, fun a => L_eqLaw a.1 a.2.1, fun o => ((), (o, ()))⟩
theorem g51 : FnGood Tryz.prog 51 sg51 :=
  good_of (l := [(52, sg52)]) (nt := 11) (io := []) ⟨fun n => match n with | _ => none, fun n => match n with | _ => none⟩ (fun z => z.2.1)
    mixed tysOK Tryz.func51 ⟨g52, trivial⟩ (by kernel_rfl) (fun _ => rfl) (fun _ => by kernel_rfl)

noncomputable def sg136 : Sig := ⟨[.val (.st .battery) false, .val (.st .battery) false], [.v .bool .own], Bool, fun a => L_eqBattery a.1 a.2.1, fun o => ((), (o, ()))⟩
theorem g136 : FnGood Tryz.prog 136 sg136 :=
  good_of (l := []) (nt := 35) (io := []) ⟨fun n => match n with | _ => none, fun n => match n with | _ => none⟩ (fun z => z.2.1)
    mixed tysOK Tryz.func136 trivial (by kernel_rfl) (fun _ => rfl) (fun _ => by kernel_rfl)

noncomputable def sg53 : Sig := ⟨[.val (.sl (.st .battery)) false, .val (.sl (.st .battery)) false], [.v .bool .own], Bool, fun a => L_eqBatteryS a.1 a.2.1, fun o => ((), (o, ()))⟩
theorem g53 : FnGood Tryz.prog 53 sg53 :=
  good_of (l := [(136, sg136)]) (nt := 27) (io := []) ⟨fun n => match n with | 4 => some ⟨[0, 1, 4, 6, 7, 8, 9, 10], [(5, .own I64 .own)], 0, []⟩ | _ => none, fun n => match n with | _ => none⟩ (fun z => z.2.1)
    mixed tysOK Tryz.func53 ⟨g136, trivial⟩ (by kernel_rfl) (fun _ => rfl) (fun _ => by kernel_rfl)

noncomputable def sg141 : Sig := ⟨[.val (.st .packet) false, .val (.st .packet) false], [.v .bool .own], Bool, fun a => L_eqPacket a.1 a.2.1, fun o => ((), (o, ()))⟩
theorem g141 : FnGood Tryz.prog 141 sg141 :=
  good_of (l := []) (nt := 35) (io := []) ⟨fun n => match n with | _ => none, fun n => match n with | _ => none⟩ (fun z => z.2.1)
    mixed tysOK Tryz.func141 trivial (by kernel_rfl) (fun _ => rfl) (fun _ => by kernel_rfl)

noncomputable def sg58 : Sig := ⟨[.val (.sl (.st .packet)) false, .val (.sl (.st .packet)) false], [.v .bool .own], Bool, fun a => L_eqPacketS a.1 a.2.1, fun o => ((), (o, ()))⟩
theorem g58 : FnGood Tryz.prog 58 sg58 :=
  good_of (l := [(141, sg141)]) (nt := 27) (io := []) ⟨fun n => match n with | 4 => some ⟨[0, 1, 4, 6, 7, 8, 9, 10], [(5, .own I64 .own)], 0, []⟩ | _ => none, fun n => match n with | _ => none⟩ (fun z => z.2.1)
    mixed tysOK Tryz.func58 ⟨g141, trivial⟩ (by kernel_rfl) (fun _ => rfl) (fun _ => by kernel_rfl)

noncomputable def sg137 : Sig := ⟨[.val (.st .queue) false, .val (.st .queue) false], [.v .bool .own], Bool, fun a => L_eqQueue a.1 a.2.1, fun o => ((), (o, ()))⟩
theorem g137 : FnGood Tryz.prog 137 sg137 :=
  good_of (l := [(58, sg58)]) (nt := 11) (io := []) ⟨fun n => match n with | _ => none, fun n => match n with | _ => none⟩ (fun z => z.2.1)
    mixed tysOK Tryz.func137 ⟨g58, trivial⟩ (by kernel_rfl) (fun _ => rfl) (fun _ => by kernel_rfl)

noncomputable def sg54 : Sig := ⟨[.val (.sl (.st .queue)) false, .val (.sl (.st .queue)) false], [.v .bool .own], Bool, fun a => L_eqQueueS a.1 a.2.1, fun o => ((), (o, ()))⟩
theorem g54 : FnGood Tryz.prog 54 sg54 :=
  good_of (l := [(137, sg137)]) (nt := 27) (io := []) ⟨fun n => match n with | 4 => some ⟨[0, 1, 4, 6, 7, 8, 9, 10], [(5, .own I64 .own)], 0, []⟩ | _ => none, fun n => match n with | _ => none⟩ (fun z => z.2.1)
    mixed tysOK Tryz.func54 ⟨g137, trivial⟩ (by kernel_rfl) (fun _ => rfl) (fun _ => by kernel_rfl)

noncomputable def sg138 : Sig := ⟨[.val (.st .flow) false, .val (.st .flow) false], [.v .bool .own], Bool, fun a => L_eqFlow a.1 a.2.1, fun o => ((), (o, ()))⟩
theorem g138 : FnGood Tryz.prog 138 sg138 :=
  good_of (l := []) (nt := 25) (io := []) ⟨fun n => match n with | _ => none, fun n => match n with | _ => none⟩ (fun z => z.2.1)
    mixed tysOK Tryz.func138 trivial (by kernel_rfl) (fun _ => rfl) (fun _ => by kernel_rfl)

noncomputable def sg55 : Sig := ⟨[.val (.sl (.st .flow)) false, .val (.sl (.st .flow)) false], [.v .bool .own], Bool, fun a => L_eqFlowS a.1 a.2.1, fun o => ((), (o, ()))⟩
theorem g55 : FnGood Tryz.prog 55 sg55 :=
  good_of (l := [(138, sg138)]) (nt := 27) (io := []) ⟨fun n => match n with | 4 => some ⟨[0, 1, 4, 6, 7, 8, 9, 10], [(5, .own I64 .own)], 0, []⟩ | _ => none, fun n => match n with | _ => none⟩ (fun z => z.2.1)
    mixed tysOK Tryz.func55 ⟨g138, trivial⟩ (by kernel_rfl) (fun _ => rfl) (fun _ => by kernel_rfl)

noncomputable def sg139 : Sig := ⟨[.val (.st .stream) false, .val (.st .stream) false], [.v .bool .own], Bool, fun a => L_eqStream a.1 a.2.1, fun o => ((), (o, ()))⟩
theorem g139 : FnGood Tryz.prog 139 sg139 :=
  good_of (l := [(52, sg52)]) (nt := 21) (io := []) ⟨fun n => match n with | _ => none, fun n => match n with | _ => none⟩ (fun z => z.2.1)
    mixed tysOK Tryz.func139 ⟨g52, trivial⟩ (by kernel_rfl) (fun _ => rfl) (fun _ => by kernel_rfl)

noncomputable def sg56 : Sig := ⟨[.val (.sl (.st .stream)) false, .val (.sl (.st .stream)) false], [.v .bool .own], Bool, fun a => L_eqStreamS a.1 a.2.1, fun o => ((), (o, ()))⟩
theorem g56 : FnGood Tryz.prog 56 sg56 :=
  good_of (l := [(139, sg139)]) (nt := 27) (io := []) ⟨fun n => match n with | 4 => some ⟨[0, 1, 4, 6, 7, 8, 9, 10], [(5, .own I64 .own)], 0, []⟩ | _ => none, fun n => match n with | _ => none⟩ (fun z => z.2.1)
    mixed tysOK Tryz.func56 ⟨g139, trivial⟩ (by kernel_rfl) (fun _ => rfl) (fun _ => by kernel_rfl)

noncomputable def sg140 : Sig := ⟨[.val (.st .fault) false, .val (.st .fault) false], [.v .bool .own], Bool, fun a => L_eqFault a.1 a.2.1, fun o => ((), (o, ()))⟩
theorem g140 : FnGood Tryz.prog 140 sg140 :=
  good_of (l := []) (nt := 25) (io := []) ⟨fun n => match n with | _ => none, fun n => match n with | _ => none⟩ (fun z => z.2.1)
    mixed tysOK Tryz.func140 trivial (by kernel_rfl) (fun _ => rfl) (fun _ => by kernel_rfl)

noncomputable def sg57 : Sig := ⟨[.val (.sl (.st .fault)) false, .val (.sl (.st .fault)) false], [.v .bool .own], Bool, fun a => L_eqFaultS a.1 a.2.1, fun o => ((), (o, ()))⟩
theorem g57 : FnGood Tryz.prog 57 sg57 :=
  good_of (l := [(140, sg140)]) (nt := 27) (io := []) ⟨fun n => match n with | 4 => some ⟨[0, 1, 4, 6, 7, 8, 9, 10], [(5, .own I64 .own)], 0, []⟩ | _ => none, fun n => match n with | _ => none⟩ (fun z => z.2.1)
    mixed tysOK Tryz.func57 ⟨g140, trivial⟩ (by kernel_rfl) (fun _ => rfl) (fun _ => by kernel_rfl)

noncomputable def sg142 : Sig := ⟨[.val (.st .sent) false, .val (.st .sent) false], [.v .bool .own], Bool, fun a => L_eqSent a.1 a.2.1, fun o => ((), (o, ()))⟩
theorem g142 : FnGood Tryz.prog 142 sg142 :=
  good_of (l := []) (nt := 25) (io := []) ⟨fun n => match n with | _ => none, fun n => match n with | _ => none⟩ (fun z => z.2.1)
    mixed tysOK Tryz.func142 trivial (by kernel_rfl) (fun _ => rfl) (fun _ => by kernel_rfl)

noncomputable def sg59 : Sig := ⟨[.val (.sl (.st .sent)) false, .val (.sl (.st .sent)) false], [.v .bool .own], Bool, fun a => L_eqSentS a.1 a.2.1, fun o => ((), (o, ()))⟩
theorem g59 : FnGood Tryz.prog 59 sg59 :=
  good_of (l := [(142, sg142)]) (nt := 27) (io := []) ⟨fun n => match n with | 4 => some ⟨[0, 1, 4, 6, 7, 8, 9, 10], [(5, .own I64 .own)], 0, []⟩ | _ => none, fun n => match n with | _ => none⟩ (fun z => z.2.1)
    mixed tysOK Tryz.func59 ⟨g142, trivial⟩ (by kernel_rfl) (fun _ => rfl) (fun _ => by kernel_rfl)

noncomputable def sg12 : Sig := ⟨[.val (.st .world) false, .val (.st .world) false], [.v .bool .own], Bool, fun a => L_eqWorld a.1 a.2.1, fun o => ((), (o, ()))⟩
theorem g12 : FnGood Tryz.prog 12 sg12 :=
  good_of (l := [(49, sg49), (50, sg50), (51, sg51), (52, sg52), (53, sg53), (54, sg54), (55, sg55), (56, sg56), (57, sg57), (58, sg58), (59, sg59)]) (nt := 87) (io := []) ⟨fun n => match n with | _ => none, fun n => match n with | _ => none⟩ (fun z => z.2.1)
    mixed tysOK Tryz.func12 ⟨g49, ⟨g50, ⟨g51, ⟨g52, ⟨g53, ⟨g54, ⟨g55, ⟨g56, ⟨g57, ⟨g58, ⟨g59, trivial⟩⟩⟩⟩⟩⟩⟩⟩⟩⟩⟩ (by kernel_rfl) (fun _ => rfl) (fun _ => by kernel_rfl)

noncomputable def sg143 : Sig := ⟨[.ios (.sl (.st .sat)), .val I64 false], [.v I64 .own], List Sat × Int, fun a => L_markSatS a.1 a.2.1, fun o => ((o.1, ()), (o.2, ()))⟩
theorem g143 : FnGood Tryz.prog 143 sg143 :=
  good_of (l := []) (nt := 41) (io := [0]) ⟨fun n => match n with | 2 => some ⟨[4], [(0, .own (.sl (.st .sat)) .own), (1, .own I64 .own), (5, .own I64 .own)], 0, [(0, .own (.sl (.st .sat)) .own), (1, .own I64 .own)]⟩ | _ => none, fun n => match n with | _ => none⟩ (fun z => (z.1.1, z.2.1))
    mixed tysOK Tryz.func143 trivial (by kernel_rfl) (fun _ => rfl) (fun _ => by kernel_rfl)

noncomputable def sg144 : Sig := ⟨[.ios (.sl (.st .site)), .val I64 false], [.v I64 .own], List Site × Int, fun a => L_markSiteS a.1 a.2.1, fun o => ((o.1, ()), (o.2, ()))⟩
theorem g144 : FnGood Tryz.prog 144 sg144 :=
  good_of (l := []) (nt := 34) (io := [0]) ⟨fun n => match n with | 2 => some ⟨[4], [(0, .own (.sl (.st .site)) .own), (1, .own I64 .own), (5, .own I64 .own)], 0, [(0, .own (.sl (.st .site)) .own), (1, .own I64 .own)]⟩ | _ => none, fun n => match n with | _ => none⟩ (fun z => (z.1.1, z.2.1))
    mixed tysOK Tryz.func144 trivial (by kernel_rfl) (fun _ => rfl) (fun _ => by kernel_rfl)

noncomputable def sg145 : Sig := ⟨[.ios (.sl (.st .zone)), .val I64 false], [.v I64 .own], List Zone × Int, fun a => L_markZoneS a.1 a.2.1, fun o => ((o.1, ()), (o.2, ()))⟩
theorem g145 : FnGood Tryz.prog 145 sg145 :=
  good_of (l := []) (nt := 36) (io := [0]) ⟨fun n => match n with | 2 => some ⟨[4], [(0, .own (.sl (.st .zone)) .own), (1, .own I64 .own), (5, .own I64 .own)], 0, [(0, .own (.sl (.st .zone)) .own), (1, .own I64 .own)]⟩ | _ => none, fun n => match n with | _ => none⟩ (fun z => (z.1.1, z.2.1))
    mixed tysOK Tryz.func145 trivial (by kernel_rfl) (fun _ => rfl) (fun _ => by kernel_rfl)

noncomputable def sg60 : Sig := ⟨[.ios (.st .sky), .val I64 false], [.v I64 .own], Sky × Int, fun a => L_markSky a.1 a.2.1, fun o => ((o.1, ()), (o.2, ()))⟩
theorem g60 : FnGood Tryz.prog 60 sg60 :=
  good_of (l := [(143, sg143), (144, sg144), (145, sg145)]) (nt := 18) (io := [0]) ⟨fun n => match n with | _ => none, fun n => match n with | _ => none⟩ (fun z => (z.1.1, z.2.1))
    mixed tysOK Tryz.func60 ⟨g143, ⟨g144, ⟨g145, trivial⟩⟩⟩ (by kernel_rfl) (fun _ => rfl) (fun _ => by kernel_rfl)

noncomputable def sg183 : Sig := ⟨[.ios (.sl (.st .link)), .val I64 false], [.v I64 .own], List Link × Int, fun a => L_markLinkS a.1 a.2.1, fun o => ((o.1, ()), (o.2, ()))⟩
theorem g183 : FnGood Tryz.prog 183 sg183 :=
  good_of (l := []) (nt := 27) (io := [0]) ⟨fun n => match n with | 2 => some ⟨[4], [(0, .own (.sl (.st .link)) .own), (1, .own I64 .own), (5, .own I64 .own)], 0, [(0, .own (.sl (.st .link)) .own), (1, .own I64 .own)]⟩ | _ => none, fun n => match n with | _ => none⟩ (fun z => (z.1.1, z.2.1))
    mixed tysOK Tryz.func183 trivial (by kernel_rfl) (fun _ => rfl) (fun _ => by kernel_rfl)

noncomputable def sg63 : Sig := ⟨[.ios (.sl I64), .val I64 false], [.v I64 .own], List Int × Int, fun a => L_markIntS a.1 a.2.1, fun o => ((o.1, ()), (o.2, ()))⟩
theorem g63 : FnGood Tryz.prog 63 sg63 :=
  good_of (l := []) (nt := 19) (io := [0]) ⟨fun n => match n with | 2 => some ⟨[4], [(0, .own (.sl I64) .own), (1, .own I64 .own), (5, .own I64 .own)], 0, [(0, .own (.sl I64) .own), (1, .own I64 .own)]⟩ | _ => none, fun n => match n with | _ => none⟩ (fun z => (z.1.1, z.2.1))
    mixed tysOK Tryz.func63 trivial (by kernel_rfl) (fun _ => rfl) (fun _ => by kernel_rfl)

noncomputable def sg184 : Sig := ⟨[.ios (.sl (.st .table)), .val I64 false], [.v I64 .own], List Table × Int, fun a => L_markTableS a.1 a.2.1, fun o => ((o.1, ()), (o.2, ()))⟩
theorem g184 : FnGood Tryz.prog 184 sg184 :=
  good_of (l := [(63, sg63)]) (nt := 34) (io := [0]) ⟨fun n => match n with | 2 => some ⟨[4], [(0, .own (.sl (.st .table)) .own), (1, .own I64 .own), (5, .own I64 .own)], 0, [(0, .own (.sl (.st .table)) .own), (1, .own I64 .own)]⟩ | _ => none, fun n => match n with | _ => none⟩ (fun z => (z.1.1, z.2.1))
    mixed tysOK Tryz.func184 ⟨g63, trivial⟩ (by kernel_rfl) (fun _ => rfl) (fun _ => by kernel_rfl)

noncomputable def sg146 : Sig := ⟨[.ios (.sl (.st .piece)), .val I64 false], [.v I64 .own], List Piece × Int, fun a => L_markPieceS a.1 a.2.1, fun o => ((o.1, ()), (o.2, ()))⟩
theorem g146 : FnGood Tryz.prog 146 sg146 :=
  good_of (l := [(183, sg183), (184, sg184)]) (nt := 43) (io := [0]) ⟨fun n => match n with | 2 => some ⟨[4], [(0, .own (.sl (.st .piece)) .own), (1, .own I64 .own), (5, .own I64 .own)], 0, [(0, .own (.sl (.st .piece)) .own), (1, .own I64 .own)]⟩ | _ => none, fun n => match n with | _ => none⟩ (fun z => (z.1.1, z.2.1))
    mixed tysOK Tryz.func146 ⟨g183, ⟨g184, trivial⟩⟩ (by kernel_rfl) (fun _ => rfl) (fun _ => by kernel_rfl)

noncomputable def sg61 : Sig := ⟨[.ios (.st .prog), .val I64 false], [.v I64 .own], Prog × Int, fun a => L_markProgram a.1 a.2.1, fun o => ((o.1, ()), (o.2, ()))⟩
theorem g61 : FnGood Tryz.prog 61 sg61 :=
  good_of (l := [(146, sg146)]) (nt := 10) (io := [0]) ⟨fun n => match n with | _ => none, fun n => match n with | _ => none⟩ (fun z => (z.1.1, z.2.1))
    mixed tysOK Tryz.func61 ⟨g146, trivial⟩ (by kernel_rfl) (fun _ => rfl) (fun _ => by kernel_rfl)

noncomputable def sg62 : Sig := ⟨[.ios (.st .law), .val I64 false], [.v I64 .own], Law × Int, fun a => L_markLaw a.1 a.2.1, fun o => ((o.1, ()), (o.2, ()))⟩
theorem g62 : FnGood Tryz.prog 62 sg62 :=
  good_of (l := [(63, sg63)]) (nt := 10) (io := [0]) ⟨fun n => match n with | _ => none, fun n => match n with | _ => none⟩ (fun z => (z.1.1, z.2.1))
    mixed tysOK Tryz.func62 ⟨g63, trivial⟩ (by kernel_rfl) (fun _ => rfl) (fun _ => by kernel_rfl)

noncomputable def sg64 : Sig := ⟨[.ios (.sl (.st .battery)), .val I64 false], [.v I64 .own], List Battery × Int, fun a => L_markBatteryS a.1 a.2.1, fun o => ((o.1, ()), (o.2, ()))⟩
theorem g64 : FnGood Tryz.prog 64 sg64 :=
  good_of (l := []) (nt := 55) (io := [0]) ⟨fun n => match n with | 2 => some ⟨[4], [(0, .own (.sl (.st .battery)) .own), (1, .own I64 .own), (5, .own I64 .own)], 0, [(0, .own (.sl (.st .battery)) .own), (1, .own I64 .own)]⟩ | _ => none, fun n => match n with | _ => none⟩ (fun z => (z.1.1, z.2.1))
    mixed tysOK Tryz.func64 trivial (by kernel_rfl) (fun _ => rfl) (fun _ => by kernel_rfl)

noncomputable def sg69 : Sig := ⟨[.ios (.sl (.st .packet)), .val I64 false], [.v I64 .own], List Packet × Int, fun a => L_markPacketS a.1 a.2.1, fun o => ((o.1, ()), (o.2, ()))⟩
theorem g69 : FnGood Tryz.prog 69 sg69 :=
  good_of (l := []) (nt := 55) (io := [0]) ⟨fun n => match n with | 2 => some ⟨[4], [(0, .own (.sl (.st .packet)) .own), (1, .own I64 .own), (5, .own I64 .own)], 0, [(0, .own (.sl (.st .packet)) .own), (1, .own I64 .own)]⟩ | _ => none, fun n => match n with | _ => none⟩ (fun z => (z.1.1, z.2.1))
    mixed tysOK Tryz.func69 trivial (by kernel_rfl) (fun _ => rfl) (fun _ => by kernel_rfl)

noncomputable def sg65 : Sig := ⟨[.ios (.sl (.st .queue)), .val I64 false], [.v I64 .own], List Queue × Int, fun a => L_markQueueS a.1 a.2.1, fun o => ((o.1, ()), (o.2, ()))⟩
theorem g65 : FnGood Tryz.prog 65 sg65 :=
  good_of (l := [(69, sg69)]) (nt := 20) (io := [0]) ⟨fun n => match n with | 2 => some ⟨[4], [(0, .own (.sl (.st .queue)) .own), (1, .own I64 .own), (5, .own I64 .own)], 0, [(0, .own (.sl (.st .queue)) .own), (1, .own I64 .own)]⟩ | _ => none, fun n => match n with | _ => none⟩ (fun z => (z.1.1, z.2.1))
    mixed tysOK Tryz.func65 ⟨g69, trivial⟩ (by kernel_rfl) (fun _ => rfl) (fun _ => by kernel_rfl)

noncomputable def sg66 : Sig := ⟨[.ios (.sl (.st .flow)), .val I64 false], [.v I64 .own], List Flow × Int, fun a => L_markFlowS a.1 a.2.1, fun o => ((o.1, ()), (o.2, ()))⟩
theorem g66 : FnGood Tryz.prog 66 sg66 :=
  good_of (l := []) (nt := 41) (io := [0]) ⟨fun n => match n with | 2 => some ⟨[4], [(0, .own (.sl (.st .flow)) .own), (1, .own I64 .own), (5, .own I64 .own)], 0, [(0, .own (.sl (.st .flow)) .own), (1, .own I64 .own)]⟩ | _ => none, fun n => match n with | _ => none⟩ (fun z => (z.1.1, z.2.1))
    mixed tysOK Tryz.func66 trivial (by kernel_rfl) (fun _ => rfl) (fun _ => by kernel_rfl)

noncomputable def sg67 : Sig := ⟨[.ios (.sl (.st .stream)), .val I64 false], [.v I64 .own], List Stream × Int, fun a => L_markStreamS a.1 a.2.1, fun o => ((o.1, ()), (o.2, ()))⟩
theorem g67 : FnGood Tryz.prog 67 sg67 :=
  good_of (l := [(63, sg63)]) (nt := 34) (io := [0]) ⟨fun n => match n with | 2 => some ⟨[4], [(0, .own (.sl (.st .stream)) .own), (1, .own I64 .own), (5, .own I64 .own)], 0, [(0, .own (.sl (.st .stream)) .own), (1, .own I64 .own)]⟩ | _ => none, fun n => match n with | _ => none⟩ (fun z => (z.1.1, z.2.1))
    mixed tysOK Tryz.func67 ⟨g63, trivial⟩ (by kernel_rfl) (fun _ => rfl) (fun _ => by kernel_rfl)

noncomputable def sg68 : Sig := ⟨[.ios (.sl (.st .fault)), .val I64 false], [.v I64 .own], List Fault × Int, fun a => L_markFaultS a.1 a.2.1, fun o => ((o.1, ()), (o.2, ()))⟩
theorem g68 : FnGood Tryz.prog 68 sg68 :=
  good_of (l := []) (nt := 41) (io := [0]) ⟨fun n => match n with | 2 => some ⟨[4], [(0, .own (.sl (.st .fault)) .own), (1, .own I64 .own), (5, .own I64 .own)], 0, [(0, .own (.sl (.st .fault)) .own), (1, .own I64 .own)]⟩ | _ => none, fun n => match n with | _ => none⟩ (fun z => (z.1.1, z.2.1))
    mixed tysOK Tryz.func68 trivial (by kernel_rfl) (fun _ => rfl) (fun _ => by kernel_rfl)

noncomputable def sg70 : Sig := ⟨[.ios (.sl (.st .sent)), .val I64 false], [.v I64 .own], List Sent × Int, fun a => L_markSentS a.1 a.2.1, fun o => ((o.1, ()), (o.2, ()))⟩
theorem g70 : FnGood Tryz.prog 70 sg70 :=
  good_of (l := []) (nt := 41) (io := [0]) ⟨fun n => match n with | 2 => some ⟨[4], [(0, .own (.sl (.st .sent)) .own), (1, .own I64 .own), (5, .own I64 .own)], 0, [(0, .own (.sl (.st .sent)) .own), (1, .own I64 .own)]⟩ | _ => none, fun n => match n with | _ => none⟩ (fun z => (z.1.1, z.2.1))
    mixed tysOK Tryz.func70 trivial (by kernel_rfl) (fun _ => rfl) (fun _ => by kernel_rfl)

noncomputable def sg13 : Sig := ⟨[.ios (.st .world), .val I64 false], [.v I64 .own], Wd × Int, fun a => L_markWorld a.1 a.2.1, fun o => ((o.1, ()), (o.2, ()))⟩
theorem g13 : FnGood Tryz.prog 13 sg13 :=
  good_of (l := [(60, sg60), (61, sg61), (62, sg62), (63, sg63), (64, sg64), (65, sg65), (66, sg66), (67, sg67), (68, sg68), (69, sg69), (70, sg70)]) (nt := 54) (io := [0]) ⟨fun n => match n with | _ => none, fun n => match n with | _ => none⟩ (fun z => (z.1.1, z.2.1))
    mixed tysOK Tryz.func13 ⟨g60, ⟨g61, ⟨g62, ⟨g63, ⟨g64, ⟨g65, ⟨g66, ⟨g67, ⟨g68, ⟨g69, ⟨g70, trivial⟩⟩⟩⟩⟩⟩⟩⟩⟩⟩⟩ (by kernel_rfl) (fun _ => rfl) (fun _ => by kernel_rfl)

noncomputable def sg147 : Sig := ⟨[.val (.sl (.st .sat)) false, .val I64 false], [.v I64 .own], Int, fun a => L_heldSatS a.1 a.2.1, fun o => ((), (o, ()))⟩
theorem g147 : FnGood Tryz.prog 147 sg147 :=
  good_of (l := []) (nt := 49) (io := []) ⟨fun n => match n with | 2 => some ⟨[0, 4], [(1, .own I64 .own), (5, .own I64 .own)], 0, [(1, .own I64 .own)]⟩ | _ => none, fun n => match n with | _ => none⟩ (fun z => z.2.1)
    mixed tysOK Tryz.func147 trivial (by kernel_rfl) (fun _ => rfl) (fun _ => by kernel_rfl)

noncomputable def sg148 : Sig := ⟨[.val (.sl (.st .site)) false, .val I64 false], [.v I64 .own], Int, fun a => L_heldSiteS a.1 a.2.1, fun o => ((), (o, ()))⟩
theorem g148 : FnGood Tryz.prog 148 sg148 :=
  good_of (l := []) (nt := 40) (io := []) ⟨fun n => match n with | 2 => some ⟨[0, 4], [(1, .own I64 .own), (5, .own I64 .own)], 0, [(1, .own I64 .own)]⟩ | _ => none, fun n => match n with | _ => none⟩ (fun z => z.2.1)
    mixed tysOK Tryz.func148 trivial (by kernel_rfl) (fun _ => rfl) (fun _ => by kernel_rfl)

noncomputable def sg149 : Sig := ⟨[.val (.sl (.st .zone)) false, .val I64 false], [.v I64 .own], Int, fun a => L_heldZoneS a.1 a.2.1, fun o => ((), (o, ()))⟩
theorem g149 : FnGood Tryz.prog 149 sg149 :=
  good_of (l := []) (nt := 42) (io := []) ⟨fun n => match n with | 2 => some ⟨[0, 4], [(1, .own I64 .own), (5, .own I64 .own)], 0, [(1, .own I64 .own)]⟩ | _ => none, fun n => match n with | _ => none⟩ (fun z => z.2.1)
    mixed tysOK Tryz.func149 trivial (by kernel_rfl) (fun _ => rfl) (fun _ => by kernel_rfl)

noncomputable def sg71 : Sig := ⟨[.val (.st .sky) false, .val I64 false], [.v I64 .own], Int, fun a => L_heldSky a.1 a.2.1, fun o => ((), (o, ()))⟩
theorem g71 : FnGood Tryz.prog 71 sg71 :=
  good_of (l := [(147, sg147), (148, sg148), (149, sg149)]) (nt := 24) (io := []) ⟨fun n => match n with | _ => none, fun n => match n with | _ => none⟩ (fun z => z.2.1)
    mixed tysOK Tryz.func71 ⟨g147, ⟨g148, ⟨g149, trivial⟩⟩⟩ (by kernel_rfl) (fun _ => rfl) (fun _ => by kernel_rfl)

noncomputable def sg185 : Sig := ⟨[.val (.sl (.st .link)) false, .val I64 false], [.v I64 .own], Int, fun a => L_heldLinkS a.1 a.2.1, fun o => ((), (o, ()))⟩
theorem g185 : FnGood Tryz.prog 185 sg185 :=
  good_of (l := []) (nt := 31) (io := []) ⟨fun n => match n with | 2 => some ⟨[0, 4], [(1, .own I64 .own), (5, .own I64 .own)], 0, [(1, .own I64 .own)]⟩ | _ => none, fun n => match n with | _ => none⟩ (fun z => z.2.1)
    mixed tysOK Tryz.func185 trivial (by kernel_rfl) (fun _ => rfl) (fun _ => by kernel_rfl)

noncomputable def sg74 : Sig := ⟨[.val (.sl I64) false, .val I64 false], [.v I64 .own], Int, fun a => L_heldIntS a.1 a.2.1, fun o => ((), (o, ()))⟩
theorem g74 : FnGood Tryz.prog 74 sg74 :=
  good_of (l := []) (nt := 21) (io := []) ⟨fun n => match n with | 2 => some ⟨[0, 4], [(1, .own I64 .own), (5, .own I64 .own)], 0, [(1, .own I64 .own)]⟩ | _ => none, fun n => match n with | _ => none⟩ (fun z => z.2.1)
    mixed tysOK Tryz.func74 trivial (by kernel_rfl) (fun _ => rfl) (fun _ => by kernel_rfl)

noncomputable def sg186 : Sig := ⟨[.val (.sl (.st .table)) false, .val I64 false], [.v I64 .own], Int, fun a => L_heldTableS a.1 a.2.1, fun o => ((), (o, ()))⟩
theorem g186 : FnGood Tryz.prog 186 sg186 :=
  good_of (l := [(74, sg74)]) (nt := 40) (io := []) ⟨fun n => match n with | 2 => some ⟨[0, 4], [(1, .own I64 .own), (5, .own I64 .own)], 0, [(1, .own I64 .own)]⟩ | _ => none, fun n => match n with | _ => none⟩ (fun z => z.2.1)
    mixed tysOK Tryz.func186 ⟨g74, trivial⟩ (by kernel_rfl) (fun _ => rfl) (fun _ => by kernel_rfl)

noncomputable def sg150 : Sig := ⟨[.val (.sl (.st .piece)) false, .val I64 false], [.v I64 .own], Int, fun a => L_heldPieceS a.1 a.2.1, fun o => ((), (o, ()))⟩
theorem g150 : FnGood Tryz.prog 150 sg150 :=
  good_of (l := [(185, sg185), (186, sg186)]) (nt := 51) (io := []) ⟨fun n => match n with | 2 => some ⟨[0, 4], [(1, .own I64 .own), (5, .own I64 .own)], 0, [(1, .own I64 .own)]⟩ | _ => none, fun n => match n with | _ => none⟩ (fun z => z.2.1)
    mixed tysOK Tryz.func150 ⟨g185, ⟨g186, trivial⟩⟩ (by kernel_rfl) (fun _ => rfl) (fun _ => by kernel_rfl)

noncomputable def sg72 : Sig := ⟨[.val (.st .prog) false, .val I64 false], [.v I64 .own], Int, fun a => L_heldProgram a.1 a.2.1, fun o => ((), (o, ()))⟩
theorem g72 : FnGood Tryz.prog 72 sg72 :=
  good_of (l := [(150, sg150)]) (nt := 12) (io := []) ⟨fun n => match n with | _ => none, fun n => match n with | _ => none⟩ (fun z => z.2.1)
    mixed tysOK Tryz.func72 ⟨g150, trivial⟩ (by kernel_rfl) (fun _ => rfl) (fun _ => by kernel_rfl)

noncomputable def sg73 : Sig := ⟨[.val (.st .law) false, .val I64 false], [.v I64 .own], Int, fun a => L_heldLaw a.1 a.2.1, fun o => ((), (o, ()))⟩
theorem g73 : FnGood Tryz.prog 73 sg73 :=
  good_of (l := [(74, sg74)]) (nt := 12) (io := []) ⟨fun n => match n with | _ => none, fun n => match n with | _ => none⟩ (fun z => z.2.1)
    mixed tysOK Tryz.func73 ⟨g74, trivial⟩ (by kernel_rfl) (fun _ => rfl) (fun _ => by kernel_rfl)

noncomputable def sg75 : Sig := ⟨[.val (.sl (.st .battery)) false, .val I64 false], [.v I64 .own], Int, fun a => L_heldBatteryS a.1 a.2.1, fun o => ((), (o, ()))⟩
theorem g75 : FnGood Tryz.prog 75 sg75 :=
  good_of (l := []) (nt := 67) (io := []) ⟨fun n => match n with | 2 => some ⟨[0, 4], [(1, .own I64 .own), (5, .own I64 .own)], 0, [(1, .own I64 .own)]⟩ | _ => none, fun n => match n with | _ => none⟩ (fun z => z.2.1)
    mixed tysOK Tryz.func75 trivial (by kernel_rfl) (fun _ => rfl) (fun _ => by kernel_rfl)

noncomputable def sg80 : Sig := ⟨[.val (.sl (.st .packet)) false, .val I64 false], [.v I64 .own], Int, fun a => L_heldPacketS a.1 a.2.1, fun o => ((), (o, ()))⟩
theorem g80 : FnGood Tryz.prog 80 sg80 :=
  good_of (l := []) (nt := 67) (io := []) ⟨fun n => match n with | 2 => some ⟨[0, 4], [(1, .own I64 .own), (5, .own I64 .own)], 0, [(1, .own I64 .own)]⟩ | _ => none, fun n => match n with | _ => none⟩ (fun z => z.2.1)
    mixed tysOK Tryz.func80 trivial (by kernel_rfl) (fun _ => rfl) (fun _ => by kernel_rfl)

noncomputable def sg76 : Sig := ⟨[.val (.sl (.st .queue)) false, .val I64 false], [.v I64 .own], Int, fun a => L_heldQueueS a.1 a.2.1, fun o => ((), (o, ()))⟩
theorem g76 : FnGood Tryz.prog 76 sg76 :=
  good_of (l := [(80, sg80)]) (nt := 22) (io := []) ⟨fun n => match n with | 2 => some ⟨[0, 4], [(1, .own I64 .own), (5, .own I64 .own)], 0, [(1, .own I64 .own)]⟩ | _ => none, fun n => match n with | _ => none⟩ (fun z => z.2.1)
    mixed tysOK Tryz.func76 ⟨g80, trivial⟩ (by kernel_rfl) (fun _ => rfl) (fun _ => by kernel_rfl)

noncomputable def sg77 : Sig := ⟨[.val (.sl (.st .flow)) false, .val I64 false], [.v I64 .own], Int, fun a => L_heldFlowS a.1 a.2.1, fun o => ((), (o, ()))⟩
theorem g77 : FnGood Tryz.prog 77 sg77 :=
  good_of (l := []) (nt := 49) (io := []) ⟨fun n => match n with | 2 => some ⟨[0, 4], [(1, .own I64 .own), (5, .own I64 .own)], 0, [(1, .own I64 .own)]⟩ | _ => none, fun n => match n with | _ => none⟩ (fun z => z.2.1)
    mixed tysOK Tryz.func77 trivial (by kernel_rfl) (fun _ => rfl) (fun _ => by kernel_rfl)

noncomputable def sg78 : Sig := ⟨[.val (.sl (.st .stream)) false, .val I64 false], [.v I64 .own], Int, fun a => L_heldStreamS a.1 a.2.1, fun o => ((), (o, ()))⟩
theorem g78 : FnGood Tryz.prog 78 sg78 :=
  good_of (l := [(74, sg74)]) (nt := 40) (io := []) ⟨fun n => match n with | 2 => some ⟨[0, 4], [(1, .own I64 .own), (5, .own I64 .own)], 0, [(1, .own I64 .own)]⟩ | _ => none, fun n => match n with | _ => none⟩ (fun z => z.2.1)
    mixed tysOK Tryz.func78 ⟨g74, trivial⟩ (by kernel_rfl) (fun _ => rfl) (fun _ => by kernel_rfl)

noncomputable def sg79 : Sig := ⟨[.val (.sl (.st .fault)) false, .val I64 false], [.v I64 .own], Int, fun a => L_heldFaultS a.1 a.2.1, fun o => ((), (o, ()))⟩
theorem g79 : FnGood Tryz.prog 79 sg79 :=
  good_of (l := []) (nt := 49) (io := []) ⟨fun n => match n with | 2 => some ⟨[0, 4], [(1, .own I64 .own), (5, .own I64 .own)], 0, [(1, .own I64 .own)]⟩ | _ => none, fun n => match n with | _ => none⟩ (fun z => z.2.1)
    mixed tysOK Tryz.func79 trivial (by kernel_rfl) (fun _ => rfl) (fun _ => by kernel_rfl)

noncomputable def sg81 : Sig := ⟨[.val (.sl (.st .sent)) false, .val I64 false], [.v I64 .own], Int, fun a => L_heldSentS a.1 a.2.1, fun o => ((), (o, ()))⟩
theorem g81 : FnGood Tryz.prog 81 sg81 :=
  good_of (l := []) (nt := 49) (io := []) ⟨fun n => match n with | 2 => some ⟨[0, 4], [(1, .own I64 .own), (5, .own I64 .own)], 0, [(1, .own I64 .own)]⟩ | _ => none, fun n => match n with | _ => none⟩ (fun z => z.2.1)
    mixed tysOK Tryz.func81 trivial (by kernel_rfl) (fun _ => rfl) (fun _ => by kernel_rfl)

noncomputable def sg14 : Sig := ⟨[.val (.st .world) false, .val I64 false], [.v I64 .own], Int, fun a => L_heldWorld a.1 a.2.1, fun o => ((), (o, ()))⟩
theorem g14 : FnGood Tryz.prog 14 sg14 :=
  good_of (l := [(71, sg71), (72, sg72), (73, sg73), (74, sg74), (75, sg75), (76, sg76), (77, sg77), (78, sg78), (79, sg79), (80, sg80), (81, sg81)]) (nt := 78) (io := []) ⟨fun n => match n with | _ => none, fun n => match n with | _ => none⟩ (fun z => z.2.1)
    mixed tysOK Tryz.func14 ⟨g71, ⟨g72, ⟨g73, ⟨g74, ⟨g75, ⟨g76, ⟨g77, ⟨g78, ⟨g79, ⟨g80, ⟨g81, trivial⟩⟩⟩⟩⟩⟩⟩⟩⟩⟩⟩ (by kernel_rfl) (fun _ => rfl) (fun _ => by kernel_rfl)

noncomputable def sg3 : Sig := ⟨[.val (.st .world) false, .val (.st .fault) false], [.v .bool .own], Bool, fun a => L_FnExactStepFault a.1 a.2.1, fun o => ((), (o, ()))⟩
theorem g3 : FnGood Tryz.prog 3 sg3 :=
  good_of (l := [(7, sg7), (8, sg8), (9, sg9), (10, sg10), (11, sg11), (12, sg12), (13, sg13), (14, sg14)]) (nt := 104) (io := []) ⟨fun n => match n with | _ => none, fun n => match n with | _ => none⟩ (fun z => z.2.1)
    mixed tysOK Tryz.func3 ⟨g7, ⟨g8, ⟨g9, ⟨g10, ⟨g11, ⟨g12, ⟨g13, ⟨g14, trivial⟩⟩⟩⟩⟩⟩⟩⟩ (by kernel_rfl) (fun _ => rfl) (fun _ => by kernel_rfl)

noncomputable def sg82 : Sig := ⟨[.val (.st .world) false, .val I64 false], [.v I64 .own], Int, fun a => S_l33Flow a.1 a.2.1, fun o => ((), (o, ()))⟩
theorem g82 : FnGood Tryz.prog 82 sg82 :=
  good_of (l := []) (nt := 22) (io := []) ⟨fun n => match n with | 2 => some ⟨[0, 1, 2, 4], [(5, .own I64 .own)], 0, []⟩ | _ => none, fun n => match n with | _ => none⟩ (fun z => z.2.1)
    mixed tysOK Tryz.func82 trivial (by kernel_rfl) (fun _ => rfl) (fun _ => by kernel_rfl)

noncomputable def sg94 : Sig := ⟨[.val I64 false, .val I64 false, .val I64 false], [.v .bool .own], Bool, fun a => S_l1In a.1 a.2.1 a.2.2.1, fun o => ((), (o, ()))⟩
theorem g94 : FnGood Tryz.prog 94 sg94 :=
  good_of (l := []) (nt := 15) (io := []) ⟨fun n => match n with | _ => none, fun n => match n with | _ => none⟩ (fun z => z.2.1)
    mixed tysOK Tryz.func94 trivial (by kernel_rfl) (fun _ => rfl) (fun _ => by kernel_rfl)

noncomputable def sg83 : Sig := ⟨[.val (.st .packet) false, .val I64 false], [.v .bool .own], Bool, fun a => S_IsPacket a.1 a.2.1, fun o => ((), (o, ()))⟩
theorem g83 : FnGood Tryz.prog 83 sg83 :=
  good_of (l := [(94, sg94)]) (nt := 52) (io := []) ⟨fun n => match n with | _ => none, fun n => match n with | _ => none⟩ (fun z => z.2.1)
    mixed tysOK Tryz.func83 ⟨g94, trivial⟩ (by kernel_rfl) (fun _ => rfl) (fun _ => by kernel_rfl)

noncomputable def sg96 : Sig := ⟨[.val (.st .queue) false, .val I64 false], [.v I64 .own], Int, fun a => S_FindPacket a.1 a.2.1, fun o => ((), (o, ()))⟩
theorem g96 : FnGood Tryz.prog 96 sg96 :=
  good_of (l := []) (nt := 22) (io := []) ⟨fun n => match n with | 2 => some ⟨[0, 1, 2, 4], [(5, .own I64 .own)], 0, []⟩ | _ => none, fun n => match n with | _ => none⟩ (fun z => z.2.1)
    mixed tysOK Tryz.func96 trivial (by kernel_rfl) (fun _ => rfl) (fun _ => by kernel_rfl)

noncomputable def sg84 : Sig := ⟨[.val (.st .queue) false, .val (.st .packet) false], [.v (.st .queue) .own, .v .bool .own], Queue × Bool, fun a => S_PushPacket a.1 a.2.1, fun o => ((), (o.1, o.2, ()))⟩
theorem g84 : FnGood Tryz.prog 84 sg84 :=
  good_of (l := [(96, sg96), (109, sg109)]) (nt := 28) (io := []) ⟨fun n => match n with | _ => none, fun n => match n with | _ => none⟩ (fun z => (z.2.1, z.2.2.1))
    mixed tysOK Tryz.func84 ⟨g96, ⟨g109, trivial⟩⟩ (by kernel_rfl) (fun _ => rfl) (fun _ => by kernel_rfl)

noncomputable def sg15 : Sig := ⟨[.val (.st .world) false, .val I64 false], [.v (.st .world) .own, .v .bool .own], Wd × Bool, fun a => S_StepOffer a.1 a.2.1, fun o => ((), (o.1, o.2, ()))⟩
theorem g15 : FnGood Tryz.prog 15 sg15 :=
  good_of (l := [(34, sg34), (82, sg82), (83, sg83), (84, sg84)]) (nt := 109) (io := []) ⟨fun n => match n with | 8 => some ⟨[0, 1, 2, 4, 5, 6, 7, 8, 14, 16, 17, 18, 19, 20, 21, 22, 23, 24, 25, 26, 27, 29, 30, 31, 32, 33], [(9, .own I64 .own), (10, .own I64 .own)], 0, [(9, .own I64 .own)]⟩ | _ => none, fun n => match n with | _ => none⟩ (fun z => (z.2.1, z.2.2.1))
    mixed tysOK Tryz.func15 ⟨g34, ⟨g82, ⟨g83, ⟨g84, trivial⟩⟩⟩⟩ (by kernel_rfl) (fun _ => rfl) (fun _ => by kernel_rfl)

noncomputable def sg151 : Sig := ⟨[.val (.sl (.st .flow)) false, .fn [(.st .flow)] .bool], [.v I64 .own], Int, fun a => IndexFunc_Flow a.1 a.2.1, fun o => ((), (o, ()))⟩
theorem g151 : FnGood Tryz.prog 151 sg151 :=
  good_of (l := []) (nt := 19) (io := []) ⟨fun n => match n with | 2 => some ⟨[0, 1, 4, 6, 7], [(8, .own I64 .own)], 0, []⟩ | _ => none, fun n => match n with | _ => none⟩ (fun z => z.2.1)
    mixed tysOK Tryz.func151 trivial (by kernel_rfl) (fun _ => rfl) (fun _ => by kernel_rfl)

noncomputable def sg152 : Sig := ⟨[.val (.st .flow) false, .cp I64], [.v .bool .own], Bool, fun a => I_flowAt_1 a.1 a.2.1, fun o => ((), (o, ()))⟩
theorem g152 : FnGood Tryz.prog 152 sg152 :=
  good_of (l := []) (nt := 8) (io := []) ⟨fun n => match n with | _ => none, fun n => match n with | _ => none⟩ (fun z => z.2.1)
    mixed tysOK Tryz.func152 trivial (by kernel_rfl) (fun _ => rfl) (fun _ => by kernel_rfl)

noncomputable def sg85 : Sig := ⟨[.val (.st .world) false, .val I64 false], [.v I64 .own], Int, fun a => I_flowAt a.1 a.2.1, fun o => ((), (o, ()))⟩
theorem g85 : FnGood Tryz.prog 85 sg85 :=
  good_of (l := [(151, sg151), (152, sg152)]) (nt := 9) (io := []) ⟨fun n => match n with | _ => none, fun n => match n with | _ => none⟩ (fun z => z.2.1)
    mixed tysOK Tryz.func85 ⟨g151, ⟨g152, trivial⟩⟩ (by kernel_rfl) (fun _ => rfl) (fun _ => by kernel_rfl)

noncomputable def sg87 : Sig := ⟨[.val (.sl I64) false], [.v I64 .own], Int, fun a => I_sumOf a.1, fun o => ((), (o, ()))⟩
theorem g87 : FnGood Tryz.prog 87 sg87 :=
  good_of (l := []) (nt := 17) (io := []) ⟨fun n => match n with | 3 => some ⟨[0, 2, 6, 7], [(3, .own I64 .own), (8, .own I64 .own)], 0, [(3, .own I64 .own)]⟩ | _ => none, fun n => match n with | _ => none⟩ (fun z => z.2.1)
    mixed tysOK Tryz.func87 trivial (by kernel_rfl) (fun _ => rfl) (fun _ => by kernel_rfl)

noncomputable def sg163 : Sig := ⟨[.val (.sl (.st .packet)) false, .fn [(.st .packet)] .bool], [.v I64 .own], Int, fun a => IndexFunc_Packet a.1 a.2.1, fun o => ((), (o, ()))⟩
theorem g163 : FnGood Tryz.prog 163 sg163 :=
  good_of (l := []) (nt := 19) (io := []) ⟨fun n => match n with | 2 => some ⟨[0, 1, 4, 6, 7], [(8, .own I64 .own)], 0, []⟩ | _ => none, fun n => match n with | _ => none⟩ (fun z => z.2.1)
    mixed tysOK Tryz.func163 trivial (by kernel_rfl) (fun _ => rfl) (fun _ => by kernel_rfl)

noncomputable def sg164 : Sig := ⟨[.val (.st .packet) false, .cp I64], [.v .bool .own], Bool, fun a => I_FindPacket_1 a.1 a.2.1, fun o => ((), (o, ()))⟩
theorem g164 : FnGood Tryz.prog 164 sg164 :=
  good_of (l := []) (nt := 8) (io := []) ⟨fun n => match n with | _ => none, fun n => match n with | _ => none⟩ (fun z => z.2.1)
    mixed tysOK Tryz.func164 trivial (by kernel_rfl) (fun _ => rfl) (fun _ => by kernel_rfl)

noncomputable def sg99 : Sig := ⟨[.val (.st .queue) false, .val I64 false], [.v I64 .own], Int, fun a => I_FindPacket a.1 a.2.1, fun o => ((), (o, ()))⟩
theorem g99 : FnGood Tryz.prog 99 sg99 :=
  good_of (l := [(163, sg163), (164, sg164)]) (nt := 9) (io := []) ⟨fun n => match n with | _ => none, fun n => match n with | _ => none⟩ (fun z => z.2.1)
    mixed tysOK Tryz.func99 ⟨g163, ⟨g164, trivial⟩⟩ (by kernel_rfl) (fun _ => rfl) (fun _ => by kernel_rfl)

noncomputable def sg88 : Sig := ⟨[.val (.st .queue) false, .val (.st .packet) false], [.v (.st .queue) .own, .v .bool .own], Queue × Bool, fun a => I_PushPacket a.1 a.2.1, fun o => ((), (o.1, o.2, ()))⟩
theorem g88 : FnGood Tryz.prog 88 sg88 :=
  good_of (l := [(99, sg99), (128, sg128)]) (nt := 28) (io := []) ⟨fun n => match n with | _ => none, fun n => match n with | _ => none⟩ (fun z => (z.2.1, z.2.2.1))
    mixed tysOK Tryz.func88 ⟨g99, ⟨g128, trivial⟩⟩ (by kernel_rfl) (fun _ => rfl) (fun _ => by kernel_rfl)

noncomputable def sg89 : Sig := ⟨[.val (.st .packet) false, .val I64 false], [.v .bool .own], Bool, fun a => I_IsPacket a.1 a.2.1, fun o => ((), (o, ()))⟩
theorem g89 : FnGood Tryz.prog 89 sg89 :=
  good_of (l := [(86, sg86), (130, sg130)]) (nt := 42) (io := []) ⟨fun n => match n with | _ => none, fun n => match n with | _ => none⟩ (fun z => z.2.1)
    mixed tysOK Tryz.func89 ⟨g86, ⟨g130, trivial⟩⟩ (by kernel_rfl) (fun _ => rfl) (fun _ => by kernel_rfl)

noncomputable def sg16 : Sig := ⟨[.val (.st .world) false, .val I64 false], [.v (.st .world) .own, .v .bool .own], Wd × Bool, fun a => I_StepOffer a.1 a.2.1, fun o => ((), (o.1, o.2, ()))⟩
theorem g16 : FnGood Tryz.prog 16 sg16 :=
  good_of (l := [(47, sg47), (85, sg85), (86, sg86), (87, sg87), (88, sg88), (89, sg89)]) (nt := 97) (io := []) ⟨fun n => match n with | _ => none, fun n => match n with | _ => none⟩ (fun z => (z.2.1, z.2.2.1))
    mixed tysOK Tryz.func16 ⟨g47, ⟨g85, ⟨g86, ⟨g87, ⟨g88, ⟨g89, trivial⟩⟩⟩⟩⟩⟩ (by kernel_rfl) (fun _ => rfl) (fun _ => by kernel_rfl)

noncomputable def sg4 : Sig := ⟨[.val (.st .world) false, .val I64 false], [.v .bool .own], Bool, fun a => L_FnExactStepOffer a.1 a.2.1, fun o => ((), (o, ()))⟩
theorem g4 : FnGood Tryz.prog 4 sg4 :=
  good_of (l := [(7, sg7), (9, sg9), (12, sg12), (13, sg13), (14, sg14), (15, sg15), (16, sg16)]) (nt := 101) (io := []) ⟨fun n => match n with | _ => none, fun n => match n with | _ => none⟩ (fun z => z.2.1)
    mixed tysOK Tryz.func4 ⟨g7, ⟨g9, ⟨g12, ⟨g13, ⟨g14, ⟨g15, ⟨g16, trivial⟩⟩⟩⟩⟩⟩⟩ (by kernel_rfl) (fun _ => rfl) (fun _ => by kernel_rfl)

noncomputable def sg153 : Sig := ⟨[.val (.st .flow) false, .val I64 false], [.v .bool .own], Bool, fun a => S_IsFlow a.1 a.2.1, fun o => ((), (o, ()))⟩
theorem g153 : FnGood Tryz.prog 153 sg153 :=
  good_of (l := [(94, sg94)]) (nt := 42) (io := []) ⟨fun n => match n with | _ => none, fun n => match n with | _ => none⟩ (fun z => z.2.1)
    mixed tysOK Tryz.func153 ⟨g94, trivial⟩ (by kernel_rfl) (fun _ => rfl) (fun _ => by kernel_rfl)

noncomputable def sg207 : Sig := ⟨[.val (.st .prog) false, .val I64 false, .val I64 false], [.v (.st .table) .own, .v .bool .own], Table × Bool, fun a => S_TableIn a.1 a.2.1 a.2.2.1, fun o => ((), (o.1, o.2, ()))⟩
theorem g207 : FnGood Tryz.prog 207 sg207 :=
  good_of (l := [(94, sg94), (169, sg169)]) (nt := 39) (io := []) ⟨fun n => match n with | _ => none, fun n => match n with | _ => none⟩ (fun z => (z.2.1, z.2.2.1))
    mixed tysOK Tryz.func207 ⟨g94, ⟨g169, trivial⟩⟩ (by kernel_rfl) (fun _ => rfl) (fun _ => by kernel_rfl)

noncomputable def sg219 : Sig := ⟨[.val (.sl I64) false, .val I64 false, .val I64 false], [.v (.sl I64) .own], List Int, fun a => S_PathTo a.1 a.2.1 a.2.2.1, fun o => ((), (o, ()))⟩
theorem g219 : FnGood Tryz.prog 219 sg219 :=
  good_of (l := [(94, sg94)]) (nt := 36) (io := []) ⟨fun n => match n with | 3 => some ⟨[0, 1, 2, 6, 10], [(7, .own (.sl I64) .own), (8, .own I64 .own)], 0, []⟩ | _ => none, fun n => match n with | _ => none⟩ (fun z => z.2.1)
    mixed tysOK Tryz.func219 ⟨g94, trivial⟩ (by kernel_rfl) (fun _ => rfl) (fun _ => by kernel_rfl)

noncomputable def sg208 : Sig := ⟨[.val (.st .table) false, .val I64 false], [.v (.sl I64) .own], List Int, fun a => S_RouteOf a.1 a.2.1, fun o => ((), (o, ()))⟩
theorem g208 : FnGood Tryz.prog 208 sg208 :=
  good_of (l := [(219, sg219)]) (nt := 11) (io := []) ⟨fun n => match n with | _ => none, fun n => match n with | _ => none⟩ (fun z => z.2.1)
    mixed tysOK Tryz.func208 ⟨g219, trivial⟩ (by kernel_rfl) (fun _ => rfl) (fun _ => by kernel_rfl)

noncomputable def sg187 : Sig := ⟨[.val (.st .prog) false, .val I64 false, .val (.st .flow) false], [.v (.sl I64) .own], List Int, fun a => S_RouteIn a.1 a.2.1 a.2.2.1, fun o => ((), (o, ()))⟩
theorem g187 : FnGood Tryz.prog 187 sg187 :=
  good_of (l := [(207, sg207), (208, sg208)]) (nt := 24) (io := []) ⟨fun n => match n with | _ => none, fun n => match n with | _ => none⟩ (fun z => z.2.1)
    mixed tysOK Tryz.func187 ⟨g207, ⟨g208, trivial⟩⟩ (by kernel_rfl) (fun _ => rfl) (fun _ => by kernel_rfl)

noncomputable def sg188 : Sig := ⟨[.val (.st .prog) false, .val (.sl (.st .flow)) false, .val I64 false, .val I64 false, .val I64 false], [.v I64 .own], Int, fun a => S_ReservedOn a.1 a.2.1 a.2.2.1 a.2.2.2.1 a.2.2.2.2.1, fun o => ((), (o, ()))⟩
theorem g188 : FnGood Tryz.prog 188 sg188 :=
  good_of (l := [(187, sg187)]) (nt := 58) (io := []) ⟨fun n => match n with | 3 => some ⟨[0, 1, 2, 3, 4, 5, 10], [(11, .own I64 .own), (12, .own I64 .own)], 0, [(11, .own I64 .own)]⟩ | 8 => some ⟨[0, 1, 2, 3, 4, 5, 10, 12, 13, 15, 16, 17, 18, 21, 22, 23, 24, 25, 26, 27, 28, 29, 30, 31, 32], [(11, .own I64 .own), (14, .own I64 .own)], 2, [(11, .own I64 .own)]⟩ | _ => none, fun n => match n with | _ => none⟩ (fun z => z.2.1)
    mixed tysOK Tryz.func188 ⟨g187, trivial⟩ (by kernel_rfl) (fun _ => rfl) (fun _ => by kernel_rfl)

noncomputable def sg154 : Sig := ⟨[.val (.st .prog) false, .val (.sl (.st .flow)) false, .val (.st .flow) false, .val I64 false], [.v .bool .own], Bool, fun a => S_HasRoom a.1 a.2.1 a.2.2.1 a.2.2.2.1, fun o => ((), (o, ()))⟩
theorem g154 : FnGood Tryz.prog 154 sg154 :=
  good_of (l := [(187, sg187), (188, sg188)]) (nt := 44) (io := []) ⟨fun n => match n with | 2 => some ⟨[0, 1, 2, 3, 4, 6, 8], [(9, .own I64 .own)], 0, []⟩ | 6 => some ⟨[0, 1, 2, 3, 4, 6, 8, 9, 10, 12, 13, 14, 15, 16, 19, 20, 21], [(11, .own I64 .own)], 2, []⟩ | _ => none, fun n => match n with | _ => none⟩ (fun z => z.2.1)
    mixed tysOK Tryz.func154 ⟨g187, ⟨g188, trivial⟩⟩ (by kernel_rfl) (fun _ => rfl) (fun _ => by kernel_rfl)

noncomputable def sg90 : Sig := ⟨[.val (.st .prog) false, .val (.sl (.st .flow)) false, .val (.st .flow) false, .val I64 false], [.v (.sl (.st .flow)) .own, .v .bool .own], List Flow × Bool, fun a => S_AdmitFlow a.1 a.2.1 a.2.2.1 a.2.2.2.1, fun o => ((), (o.1, o.2, ()))⟩
theorem g90 : FnGood Tryz.prog 90 sg90 :=
  good_of (l := [(153, sg153), (154, sg154)]) (nt := 57) (io := []) ⟨fun n => match n with | 5 => some ⟨[0, 1, 2, 3, 4, 6, 8, 9, 10, 13, 15, 16, 17, 18, 19, 20, 21, 22, 23, 24], [(11, .own I64 .own)], 0, []⟩ | _ => none, fun n => match n with | 11 => some ⟨[0, 1, 2, 3, 4, 6, 8, 9, 10, 13, 15, 16, 17, 18, 19, 20, 21, 22, 23, 24], [], true⟩ | _ => none⟩ (fun z => (z.2.1, z.2.2.1))
    mixed tysOK Tryz.func90 ⟨g153, ⟨g154, trivial⟩⟩ (by kernel_rfl) (fun _ => rfl) (fun _ => by kernel_rfl)

noncomputable def sg155 : Sig := ⟨[.val (.sl I64) false, .val I64 false], [.v .bool .own], Bool, fun a => S_l15Has a.1 a.2.1, fun o => ((), (o, ()))⟩
theorem g155 : FnGood Tryz.prog 155 sg155 :=
  good_of (l := []) (nt := 18) (io := []) ⟨fun n => match n with | 2 => some ⟨[0, 1, 4], [(5, .own I64 .own)], 0, []⟩ | _ => none, fun n => match n with | _ => none⟩ (fun z => z.2.1)
    mixed tysOK Tryz.func155 trivial (by kernel_rfl) (fun _ => rfl) (fun _ => by kernel_rfl)

noncomputable def sg91 : Sig := ⟨[.val (.st .law) false, .val (.st .prog) false, .val I64 false], [.v .bool .own], Bool, fun a => S_IsLanding a.1 a.2.1 a.2.2.1, fun o => ((), (o, ()))⟩
theorem g91 : FnGood Tryz.prog 91 sg91 :=
  good_of (l := [(155, sg155)]) (nt := 27) (io := []) ⟨fun n => match n with | _ => none, fun n => match n with | _ => none⟩ (fun z => z.2.1)
    mixed tysOK Tryz.func91 ⟨g155, trivial⟩ (by kernel_rfl) (fun _ => rfl) (fun _ => by kernel_rfl)

noncomputable def sg17 : Sig := ⟨[.val (.st .world) false, .val (.st .flow) false], [.v (.st .world) .own, .v .bool .own], Wd × Bool, fun a => S_StepFlow a.1 a.2.1, fun o => ((), (o.1, o.2, ()))⟩
theorem g17 : FnGood Tryz.prog 17 sg17 :=
  good_of (l := [(34, sg34), (90, sg90), (91, sg91)]) (nt := 49) (io := []) ⟨fun n => match n with | _ => none, fun n => match n with | _ => none⟩ (fun z => (z.2.1, z.2.2.1))
    mixed tysOK Tryz.func17 ⟨g34, ⟨g90, ⟨g91, trivial⟩⟩⟩ (by kernel_rfl) (fun _ => rfl) (fun _ => by kernel_rfl)

noncomputable def sg156 : Sig := ⟨[.val (.st .flow) false, .val I64 false], [.v .bool .own], Bool, fun a => I_IsFlow a.1 a.2.1, fun o => ((), (o, ()))⟩
theorem g156 : FnGood Tryz.prog 156 sg156 :=
  good_of (l := [(86, sg86), (130, sg130)]) (nt := 32) (io := []) ⟨fun n => match n with | _ => none, fun n => match n with | _ => none⟩ (fun z => z.2.1)
    mixed tysOK Tryz.func156 ⟨g86, ⟨g130, trivial⟩⟩ (by kernel_rfl) (fun _ => rfl) (fun _ => by kernel_rfl)

noncomputable def sg157 : Sig := ⟨[.val (.sl (.st .flow)) false, .fn [(.st .flow)] .bool], [.v .bool .own], Bool, fun a => ContainsFunc_Flow a.1 a.2.1, fun o => ((), (o, ()))⟩
theorem g157 : FnGood Tryz.prog 157 sg157 :=
  good_of (l := [(151, sg151)]) (nt := 9) (io := []) ⟨fun n => match n with | _ => none, fun n => match n with | _ => none⟩ (fun z => z.2.1)
    mixed tysOK Tryz.func157 ⟨g151, trivial⟩ (by kernel_rfl) (fun _ => rfl) (fun _ => by kernel_rfl)

noncomputable def sg158 : Sig := ⟨[.val (.st .flow) false, .cp (.st .flow)], [.v .bool .own], Bool, fun a => I_AdmitFlow_1 a.1 a.2.1, fun o => ((), (o, ()))⟩
theorem g158 : FnGood Tryz.prog 158 sg158 :=
  good_of (l := []) (nt := 9) (io := []) ⟨fun n => match n with | _ => none, fun n => match n with | _ => none⟩ (fun z => z.2.1)
    mixed tysOK Tryz.func158 trivial (by kernel_rfl) (fun _ => rfl) (fun _ => by kernel_rfl)

noncomputable def sg209 : Sig := ⟨[.val (.st .prog) false, .val I64 false, .val I64 false], [.v (.st .table) .own, .v .bool .own], Table × Bool, fun a => I_TableIn a.1 a.2.1 a.2.2.1, fun o => ((), (o.1, o.2, ()))⟩
theorem g209 : FnGood Tryz.prog 209 sg209 :=
  good_of (l := [(86, sg86), (178, sg178)]) (nt := 37) (io := []) ⟨fun n => match n with | _ => none, fun n => match n with | _ => none⟩ (fun z => (z.2.1, z.2.2.1))
    mixed tysOK Tryz.func209 ⟨g86, ⟨g178, trivial⟩⟩ (by kernel_rfl) (fun _ => rfl) (fun _ => by kernel_rfl)

noncomputable def sg220 : Sig := ⟨[.val (.sl I64) false, .val I64 false, .val I64 false], [.v (.sl I64) .own], List Int, fun a => I_PathTo a.1 a.2.1 a.2.2.1, fun o => ((), (o, ()))⟩
theorem g220 : FnGood Tryz.prog 220 sg220 :=
  good_of (l := [(86, sg86)]) (nt := 33) (io := []) ⟨fun n => match n with | 2 => some ⟨[0, 2, 6], [(1, .own I64 .own), (7, .own (.sl I64) .own)], 0, []⟩ | _ => none, fun n => match n with | _ => none⟩ (fun z => z.2.1)
    mixed tysOK Tryz.func220 ⟨g86, trivial⟩ (by kernel_rfl) (fun _ => rfl) (fun _ => by kernel_rfl)

noncomputable def sg210 : Sig := ⟨[.val (.st .table) false, .val I64 false], [.v (.sl I64) .own], List Int, fun a => I_RouteOf a.1 a.2.1, fun o => ((), (o, ()))⟩
theorem g210 : FnGood Tryz.prog 210 sg210 :=
  good_of (l := [(220, sg220)]) (nt := 11) (io := []) ⟨fun n => match n with | _ => none, fun n => match n with | _ => none⟩ (fun z => z.2.1)
    mixed tysOK Tryz.func210 ⟨g220, trivial⟩ (by kernel_rfl) (fun _ => rfl) (fun _ => by kernel_rfl)

noncomputable def sg189 : Sig := ⟨[.val (.st .prog) false, .val I64 false, .val (.st .flow) false], [.v (.sl I64) .own], List Int, fun a => I_RouteIn a.1 a.2.1 a.2.2.1, fun o => ((), (o, ()))⟩
theorem g189 : FnGood Tryz.prog 189 sg189 :=
  good_of (l := [(209, sg209), (210, sg210)]) (nt := 24) (io := []) ⟨fun n => match n with | _ => none, fun n => match n with | _ => none⟩ (fun z => z.2.1)
    mixed tysOK Tryz.func189 ⟨g209, ⟨g210, trivial⟩⟩ (by kernel_rfl) (fun _ => rfl) (fun _ => by kernel_rfl)

noncomputable def sg211 : Sig := ⟨[.val (.sl I64) false, .val I64 false, .val I64 false], [.v .bool .own], Bool, fun a => I_goes a.1 a.2.1 a.2.2.1, fun o => ((), (o, ()))⟩
theorem g211 : FnGood Tryz.prog 211 sg211 :=
  good_of (l := []) (nt := 29) (io := []) ⟨fun n => match n with | 2 => some ⟨[0, 1, 2, 6], [(7, .own I64 .own)], 0, []⟩ | _ => none, fun n => match n with | _ => none⟩ (fun z => z.2.1)
    mixed tysOK Tryz.func211 trivial (by kernel_rfl) (fun _ => rfl) (fun _ => by kernel_rfl)

noncomputable def sg190 : Sig := ⟨[.val (.st .prog) false, .val (.sl (.st .flow)) false, .val I64 false, .val I64 false, .val I64 false], [.v I64 .own], Int, fun a => I_ReservedOn a.1 a.2.1 a.2.2.1 a.2.2.2.1 a.2.2.2.2.1, fun o => ((), (o, ()))⟩
theorem g190 : FnGood Tryz.prog 190 sg190 :=
  good_of (l := [(189, sg189), (211, sg211)]) (nt := 36) (io := []) ⟨fun n => match n with | 3 => some ⟨[0, 1, 2, 3, 4, 5, 10, 14, 15], [(11, .own I64 .own), (16, .own I64 .own)], 0, [(11, .own I64 .own)]⟩ | _ => none, fun n => match n with | _ => none⟩ (fun z => z.2.1)
    mixed tysOK Tryz.func190 ⟨g189, ⟨g211, trivial⟩⟩ (by kernel_rfl) (fun _ => rfl) (fun _ => by kernel_rfl)

noncomputable def sg159 : Sig := ⟨[.val (.st .prog) false, .val (.sl (.st .flow)) false, .val (.st .flow) false, .val I64 false], [.v .bool .own], Bool, fun a => I_HasRoom a.1 a.2.1 a.2.2.1 a.2.2.2.1, fun o => ((), (o, ()))⟩
theorem g159 : FnGood Tryz.prog 159 sg159 :=
  good_of (l := [(189, sg189), (190, sg190)]) (nt := 44) (io := []) ⟨fun n => match n with | 2 => some ⟨[0, 1, 2, 3, 4, 6, 8, 12, 13, 14], [(15, .own I64 .own)], 0, []⟩ | 6 => some ⟨[0, 1, 2, 3, 4, 6, 8, 9, 10, 12, 13, 14, 15, 16, 17, 18, 19, 20], [(11, .own I64 .own)], 2, []⟩ | _ => none, fun n => match n with | _ => none⟩ (fun z => z.2.1)
    mixed tysOK Tryz.func159 ⟨g189, ⟨g190, trivial⟩⟩ (by kernel_rfl) (fun _ => rfl) (fun _ => by kernel_rfl)

noncomputable def sg92 : Sig := ⟨[.val (.st .prog) false, .val (.sl (.st .flow)) false, .val (.st .flow) false, .val I64 false], [.v (.sl (.st .flow)) .own, .v .bool .own], List Flow × Bool, fun a => I_AdmitFlow a.1 a.2.1 a.2.2.1 a.2.2.2.1, fun o => ((), (o.1, o.2, ()))⟩
theorem g92 : FnGood Tryz.prog 92 sg92 :=
  good_of (l := [(124, sg124), (156, sg156), (157, sg157), (158, sg158), (159, sg159)]) (nt := 46) (io := []) ⟨fun n => match n with | _ => none, fun n => match n with | 4 => some ⟨[0, 1, 2, 3, 4, 6, 8, 9, 10, 11], [], true⟩ | _ => none⟩ (fun z => (z.2.1, z.2.2.1))
    mixed tysOK Tryz.func92 ⟨g124, ⟨g156, ⟨g157, ⟨g158, ⟨g159, trivial⟩⟩⟩⟩⟩ (by kernel_rfl) (fun _ => rfl) (fun _ => by kernel_rfl)

noncomputable def sg191 : Sig := ⟨[.val (.sl I64) false, .val I64 false], [.v I64 .own], Int, fun a => Index_int a.1 a.2.1, fun o => ((), (o, ()))⟩
theorem g191 : FnGood Tryz.prog 191 sg191 :=
  good_of (l := []) (nt := 19) (io := []) ⟨fun n => match n with | 2 => some ⟨[0, 1, 4, 6, 7], [(8, .own I64 .own)], 0, []⟩ | _ => none, fun n => match n with | _ => none⟩ (fun z => z.2.1)
    mixed tysOK Tryz.func191 trivial (by kernel_rfl) (fun _ => rfl) (fun _ => by kernel_rfl)

noncomputable def sg160 : Sig := ⟨[.val (.sl I64) false, .val I64 false], [.v .bool .own], Bool, fun a => Contains_int a.1 a.2.1, fun o => ((), (o, ()))⟩
theorem g160 : FnGood Tryz.prog 160 sg160 :=
  good_of (l := [(191, sg191)]) (nt := 9) (io := []) ⟨fun n => match n with | _ => none, fun n => match n with | _ => none⟩ (fun z => z.2.1)
    mixed tysOK Tryz.func160 ⟨g191, trivial⟩ (by kernel_rfl) (fun _ => rfl) (fun _ => by kernel_rfl)

noncomputable def sg93 : Sig := ⟨[.val (.st .law) false, .val (.st .prog) false, .val I64 false], [.v .bool .own], Bool, fun a => I_IsLanding a.1 a.2.1 a.2.2.1, fun o => ((), (o, ()))⟩
theorem g93 : FnGood Tryz.prog 93 sg93 :=
  good_of (l := [(86, sg86), (160, sg160)]) (nt := 23) (io := []) ⟨fun n => match n with | _ => none, fun n => match n with | _ => none⟩ (fun z => z.2.1)
    mixed tysOK Tryz.func93 ⟨g86, ⟨g160, trivial⟩⟩ (by kernel_rfl) (fun _ => rfl) (fun _ => by kernel_rfl)

noncomputable def sg19 : Sig := ⟨[.val (.st .world) false, .val (.st .flow) false], [.v (.st .world) .own, .v .bool .own], Wd × Bool, fun a => I_StepFlow a.1 a.2.1, fun o => ((), (o.1, o.2, ()))⟩
theorem g19 : FnGood Tryz.prog 19 sg19 :=
  good_of (l := [(47, sg47), (92, sg92), (93, sg93)]) (nt := 48) (io := []) ⟨fun n => match n with | _ => none, fun n => match n with | _ => none⟩ (fun z => (z.2.1, z.2.2.1))
    mixed tysOK Tryz.func19 ⟨g47, ⟨g92, ⟨g93, trivial⟩⟩⟩ (by kernel_rfl) (fun _ => rfl) (fun _ => by kernel_rfl)

noncomputable def sg5 : Sig := ⟨[.val (.st .world) false, .val (.st .flow) false], [.v .bool .own], Bool, fun a => L_FnExactStepFlow a.1 a.2.1, fun o => ((), (o, ()))⟩
theorem g5 : FnGood Tryz.prog 5 sg5 :=
  good_of (l := [(7, sg7), (9, sg9), (12, sg12), (13, sg13), (14, sg14), (17, sg17), (18, sg18), (19, sg19)]) (nt := 104) (io := []) ⟨fun n => match n with | _ => none, fun n => match n with | _ => none⟩ (fun z => z.2.1)
    mixed tysOK Tryz.func5 ⟨g7, ⟨g9, ⟨g12, ⟨g13, ⟨g14, ⟨g17, ⟨g18, ⟨g19, trivial⟩⟩⟩⟩⟩⟩⟩⟩ (by kernel_rfl) (fun _ => rfl) (fun _ => by kernel_rfl)

end Go.Proofs.YtoildogibnampaaGreat
