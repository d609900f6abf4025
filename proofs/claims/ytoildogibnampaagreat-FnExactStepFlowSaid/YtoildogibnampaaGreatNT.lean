/- The types of the loaded program that the walks meet. -/
import Derived.Test.YtoildogibnampaaGreatRows
import Derived.Test.YtoildogibnampaaGreatBaseF
namespace Go.Proofs.YtoildogibnampaaGreat
open Go Net
set_option maxRecDepth 100000

def tys : List (Nat × Ty) := [(3, I64), (4, .bool), (22, (.sl (.st .sat))), (23, (.sl (.st .site))), (24, (.sl (.st .zone))), (26, (.st .sky)), (27, (.sl (.st .piece))), (29, (.st .prog)), (30, (.sl I64)), (32, (.st .law)), (33, (.sl (.st .battery))), (34, (.sl (.st .queue))), (35, (.sl (.st .flow))), (36, (.sl (.st .stream))), (37, (.sl (.st .fault))), (38, (.sl (.st .packet))), (39, (.sl (.st .sent))), (41, (.st .world)), (43, (.st .fault)), (45, (.sl (.st .sat))), (46, (.sl (.st .site))), (47, (.sl (.st .zone))), (49, (.st .sky)), (50, (.sl (.st .piece))), (52, (.st .prog)), (53, (.st .law)), (54, (.sl (.st .battery))), (55, (.sl (.st .queue))), (56, (.sl (.st .flow))), (57, (.sl (.st .stream))), (58, (.sl (.st .fault))), (59, (.sl (.st .packet))), (60, (.sl (.st .sent))), (62, (.st .world)), (66, (.st .fault)), (74, (.st .flow)), (76, (.st .flow)), (80, (.st .sent)), (82, (.st .sent)), (131, (.st .packet)), (134, (.st .queue)), (143, (.st .stream)), (156, (.st .queue)), (158, (.st .stream)), (165, (.st .span)), (171, (.st .battery)), (173, (.st .battery)), (177, (.st .packet)), (212, (.st .span)), (213, (.sl (.st .link))), (214, (.sl (.st .table))), (216, (.st .piece)), (217, (.sl (.st .link))), (218, (.sl (.st .table))), (220, (.st .piece)), (222, (.st .table)), (225, (.st .sat)), (227, (.st .sat)), (229, (.st .site)), (231, (.st .site)), (233, (.st .arc)), (235, (.st .zone)), (237, (.st .arc)), (239, (.st .zone)), (263, (.st .link)), (273, (.st .table)), (275, (.st .link))]
theorem ty3 : TyAt Tryz.prog (lookT tys) 3 I64 := TyAt.mkI Tryz.type3 rfl rfl rfl Tryz.underlying3 ⟨by kernel_rfl, by kernel_rfl⟩
theorem ty4 : TyAt Tryz.prog (lookT tys) 4 .bool := TyAt.mkB Tryz.type4 rfl rfl rfl Tryz.underlying4 ⟨by kernel_rfl, by kernel_rfl⟩
theorem ty22 : TyAt Tryz.prog (lookT tys) 22 (.sl (.st .sat)) := TyAt.mkL Tryz.type22 rfl rfl rfl Tryz.underlying22 rfl
theorem ty23 : TyAt Tryz.prog (lookT tys) 23 (.sl (.st .site)) := TyAt.mkL Tryz.type23 rfl rfl rfl Tryz.underlying23 rfl
theorem ty24 : TyAt Tryz.prog (lookT tys) 24 (.sl (.st .zone)) := TyAt.mkL Tryz.type24 rfl rfl rfl Tryz.underlying24 rfl
theorem ty26 : TyAt Tryz.prog (lookT tys) 26 (.st .sky) := TyAt.mkS Tryz.type26 rfl rfl rfl Tryz.underlying26 rfl (fun h => by cases h)
theorem ty27 : TyAt Tryz.prog (lookT tys) 27 (.sl (.st .piece)) := TyAt.mkL Tryz.type27 rfl rfl rfl Tryz.underlying27 rfl
theorem ty29 : TyAt Tryz.prog (lookT tys) 29 (.st .prog) := TyAt.mkS Tryz.type29 rfl rfl rfl Tryz.underlying29 rfl (fun h => by cases h)
theorem ty30 : TyAt Tryz.prog (lookT tys) 30 (.sl I64) := TyAt.mkL Tryz.type30 rfl rfl rfl Tryz.underlying30 rfl
theorem ty32 : TyAt Tryz.prog (lookT tys) 32 (.st .law) := TyAt.mkS Tryz.type32 rfl rfl rfl Tryz.underlying32 rfl (fun h => by cases h)
theorem ty33 : TyAt Tryz.prog (lookT tys) 33 (.sl (.st .battery)) := TyAt.mkL Tryz.type33 rfl rfl rfl Tryz.underlying33 rfl
theorem ty34 : TyAt Tryz.prog (lookT tys) 34 (.sl (.st .queue)) := TyAt.mkL Tryz.type34 rfl rfl rfl Tryz.underlying34 rfl
theorem ty35 : TyAt Tryz.prog (lookT tys) 35 (.sl (.st .flow)) := TyAt.mkL Tryz.type35 rfl rfl rfl Tryz.underlying35 rfl
theorem ty36 : TyAt Tryz.prog (lookT tys) 36 (.sl (.st .stream)) := TyAt.mkL Tryz.type36 rfl rfl rfl Tryz.underlying36 rfl
theorem ty37 : TyAt Tryz.prog (lookT tys) 37 (.sl (.st .fault)) := TyAt.mkL Tryz.type37 rfl rfl rfl Tryz.underlying37 rfl
theorem ty38 : TyAt Tryz.prog (lookT tys) 38 (.sl (.st .packet)) := TyAt.mkL Tryz.type38 rfl rfl rfl Tryz.underlying38 rfl
theorem ty39 : TyAt Tryz.prog (lookT tys) 39 (.sl (.st .sent)) := TyAt.mkL Tryz.type39 rfl rfl rfl Tryz.underlying39 rfl
theorem ty41 : TyAt Tryz.prog (lookT tys) 41 (.st .world) := TyAt.mkS Tryz.type41 rfl rfl rfl Tryz.underlying41 rfl (fun h => by cases h)
theorem ty43 : TyAt Tryz.prog (lookT tys) 43 (.st .fault) := TyAt.mkS Tryz.type43 rfl rfl rfl Tryz.underlying43 rfl (fun _ => ⟨Tryz.eqGuardType43, Tryz.stoodInHeld43⟩)
theorem ty45 : TyAt Tryz.prog (lookT tys) 45 (.sl (.st .sat)) := TyAt.mkL Tryz.type45 rfl rfl rfl Tryz.underlying45 rfl
theorem ty46 : TyAt Tryz.prog (lookT tys) 46 (.sl (.st .site)) := TyAt.mkL Tryz.type46 rfl rfl rfl Tryz.underlying46 rfl
theorem ty47 : TyAt Tryz.prog (lookT tys) 47 (.sl (.st .zone)) := TyAt.mkL Tryz.type47 rfl rfl rfl Tryz.underlying47 rfl
theorem ty49 : TyAt Tryz.prog (lookT tys) 49 (.st .sky) := TyAt.mkS Tryz.type49 rfl rfl rfl Tryz.underlying49 rfl (fun h => by cases h)
theorem ty50 : TyAt Tryz.prog (lookT tys) 50 (.sl (.st .piece)) := TyAt.mkL Tryz.type50 rfl rfl rfl Tryz.underlying50 rfl
theorem ty52 : TyAt Tryz.prog (lookT tys) 52 (.st .prog) := TyAt.mkS Tryz.type52 rfl rfl rfl Tryz.underlying52 rfl (fun h => by cases h)
theorem ty53 : TyAt Tryz.prog (lookT tys) 53 (.st .law) := TyAt.mkS Tryz.type53 rfl rfl rfl Tryz.underlying53 rfl (fun h => by cases h)
theorem ty54 : TyAt Tryz.prog (lookT tys) 54 (.sl (.st .battery)) := TyAt.mkL Tryz.type54 rfl rfl rfl Tryz.underlying54 rfl
theorem ty55 : TyAt Tryz.prog (lookT tys) 55 (.sl (.st .queue)) := TyAt.mkL Tryz.type55 rfl rfl rfl Tryz.underlying55 rfl
theorem ty56 : TyAt Tryz.prog (lookT tys) 56 (.sl (.st .flow)) := TyAt.mkL Tryz.type56 rfl rfl rfl Tryz.underlying56 rfl
theorem ty57 : TyAt Tryz.prog (lookT tys) 57 (.sl (.st .stream)) := TyAt.mkL Tryz.type57 rfl rfl rfl Tryz.underlying57 rfl
theorem ty58 : TyAt Tryz.prog (lookT tys) 58 (.sl (.st .fault)) := TyAt.mkL Tryz.type58 rfl rfl rfl Tryz.underlying58 rfl
theorem ty59 : TyAt Tryz.prog (lookT tys) 59 (.sl (.st .packet)) := TyAt.mkL Tryz.type59 rfl rfl rfl Tryz.underlying59 rfl
theorem ty60 : TyAt Tryz.prog (lookT tys) 60 (.sl (.st .sent)) := TyAt.mkL Tryz.type60 rfl rfl rfl Tryz.underlying60 rfl
theorem ty62 : TyAt Tryz.prog (lookT tys) 62 (.st .world) := TyAt.mkS Tryz.type62 rfl rfl rfl Tryz.underlying62 rfl (fun h => by cases h)
theorem ty66 : TyAt Tryz.prog (lookT tys) 66 (.st .fault) := TyAt.mkS Tryz.type66 rfl rfl rfl Tryz.underlying66 rfl (fun _ => ⟨Tryz.eqGuardType66, Tryz.stoodInHeld66⟩)
theorem ty74 : TyAt Tryz.prog (lookT tys) 74 (.st .flow) := TyAt.mkS Tryz.type74 rfl rfl rfl Tryz.underlying74 rfl (fun _ => ⟨Tryz.eqGuardType74, Tryz.stoodInHeld74⟩)
theorem ty76 : TyAt Tryz.prog (lookT tys) 76 (.st .flow) := TyAt.mkS Tryz.type76 rfl rfl rfl Tryz.underlying76 rfl (fun _ => ⟨Tryz.eqGuardType76, Tryz.stoodInHeld76⟩)
theorem ty80 : TyAt Tryz.prog (lookT tys) 80 (.st .sent) := TyAt.mkS Tryz.type80 rfl rfl rfl Tryz.underlying80 rfl (fun _ => ⟨Tryz.eqGuardType80, Tryz.stoodInHeld80⟩)
theorem ty82 : TyAt Tryz.prog (lookT tys) 82 (.st .sent) := TyAt.mkS Tryz.type82 rfl rfl rfl Tryz.underlying82 rfl (fun _ => ⟨Tryz.eqGuardType82, Tryz.stoodInHeld82⟩)
theorem ty131 : TyAt Tryz.prog (lookT tys) 131 (.st .packet) := TyAt.mkS Tryz.type131 rfl rfl rfl Tryz.underlying131 rfl (fun _ => ⟨Tryz.eqGuardType131, Tryz.stoodInHeld131⟩)
theorem ty134 : TyAt Tryz.prog (lookT tys) 134 (.st .queue) := TyAt.mkS Tryz.type134 rfl rfl rfl Tryz.underlying134 rfl (fun h => by cases h)
theorem ty143 : TyAt Tryz.prog (lookT tys) 143 (.st .stream) := TyAt.mkS Tryz.type143 rfl rfl rfl Tryz.underlying143 rfl (fun h => by cases h)
theorem ty156 : TyAt Tryz.prog (lookT tys) 156 (.st .queue) := TyAt.mkS Tryz.type156 rfl rfl rfl Tryz.underlying156 rfl (fun h => by cases h)
theorem ty158 : TyAt Tryz.prog (lookT tys) 158 (.st .stream) := TyAt.mkS Tryz.type158 rfl rfl rfl Tryz.underlying158 rfl (fun h => by cases h)
theorem ty165 : TyAt Tryz.prog (lookT tys) 165 (.st .span) := TyAt.mkS Tryz.type165 rfl rfl rfl Tryz.underlying165 rfl (fun _ => ⟨Tryz.eqGuardType165, Tryz.stoodInHeld165⟩)
theorem ty171 : TyAt Tryz.prog (lookT tys) 171 (.st .battery) := TyAt.mkS Tryz.type171 rfl rfl rfl Tryz.underlying171 rfl (fun _ => ⟨Tryz.eqGuardType171, Tryz.stoodInHeld171⟩)
theorem ty173 : TyAt Tryz.prog (lookT tys) 173 (.st .battery) := TyAt.mkS Tryz.type173 rfl rfl rfl Tryz.underlying173 rfl (fun _ => ⟨Tryz.eqGuardType173, Tryz.stoodInHeld173⟩)
theorem ty177 : TyAt Tryz.prog (lookT tys) 177 (.st .packet) := TyAt.mkS Tryz.type177 rfl rfl rfl Tryz.underlying177 rfl (fun _ => ⟨Tryz.eqGuardType177, Tryz.stoodInHeld177⟩)
theorem ty212 : TyAt Tryz.prog (lookT tys) 212 (.st .span) := TyAt.mkS Tryz.type212 rfl rfl rfl Tryz.underlying212 rfl (fun _ => ⟨Tryz.eqGuardType212, Tryz.stoodInHeld212⟩)
theorem ty213 : TyAt Tryz.prog (lookT tys) 213 (.sl (.st .link)) := TyAt.mkL Tryz.type213 rfl rfl rfl Tryz.underlying213 rfl
theorem ty214 : TyAt Tryz.prog (lookT tys) 214 (.sl (.st .table)) := TyAt.mkL Tryz.type214 rfl rfl rfl Tryz.underlying214 rfl
theorem ty216 : TyAt Tryz.prog (lookT tys) 216 (.st .piece) := TyAt.mkS Tryz.type216 rfl rfl rfl Tryz.underlying216 rfl (fun h => by cases h)
theorem ty217 : TyAt Tryz.prog (lookT tys) 217 (.sl (.st .link)) := TyAt.mkL Tryz.type217 rfl rfl rfl Tryz.underlying217 rfl
theorem ty218 : TyAt Tryz.prog (lookT tys) 218 (.sl (.st .table)) := TyAt.mkL Tryz.type218 rfl rfl rfl Tryz.underlying218 rfl
theorem ty220 : TyAt Tryz.prog (lookT tys) 220 (.st .piece) := TyAt.mkS Tryz.type220 rfl rfl rfl Tryz.underlying220 rfl (fun h => by cases h)
theorem ty222 : TyAt Tryz.prog (lookT tys) 222 (.st .table) := TyAt.mkS Tryz.type222 rfl rfl rfl Tryz.underlying222 rfl (fun h => by cases h)
theorem ty225 : TyAt Tryz.prog (lookT tys) 225 (.st .sat) := TyAt.mkS Tryz.type225 rfl rfl rfl Tryz.underlying225 rfl (fun _ => ⟨Tryz.eqGuardType225, Tryz.stoodInHeld225⟩)
theorem ty227 : TyAt Tryz.prog (lookT tys) 227 (.st .sat) := TyAt.mkS Tryz.type227 rfl rfl rfl Tryz.underlying227 rfl (fun _ => ⟨Tryz.eqGuardType227, Tryz.stoodInHeld227⟩)
theorem ty229 : TyAt Tryz.prog (lookT tys) 229 (.st .site) := TyAt.mkS Tryz.type229 rfl rfl rfl Tryz.underlying229 rfl (fun _ => ⟨Tryz.eqGuardType229, Tryz.stoodInHeld229⟩)
theorem ty231 : TyAt Tryz.prog (lookT tys) 231 (.st .site) := TyAt.mkS Tryz.type231 rfl rfl rfl Tryz.underlying231 rfl (fun _ => ⟨Tryz.eqGuardType231, Tryz.stoodInHeld231⟩)
theorem ty233 : TyAt Tryz.prog (lookT tys) 233 (.st .arc) := TyAt.mkS Tryz.type233 rfl rfl rfl Tryz.underlying233 rfl (fun _ => ⟨Tryz.eqGuardType233, Tryz.stoodInHeld233⟩)
theorem ty235 : TyAt Tryz.prog (lookT tys) 235 (.st .zone) := TyAt.mkS Tryz.type235 rfl rfl rfl Tryz.underlying235 rfl (fun _ => ⟨Tryz.eqGuardType235, Tryz.stoodInHeld235⟩)
theorem ty237 : TyAt Tryz.prog (lookT tys) 237 (.st .arc) := TyAt.mkS Tryz.type237 rfl rfl rfl Tryz.underlying237 rfl (fun _ => ⟨Tryz.eqGuardType237, Tryz.stoodInHeld237⟩)
theorem ty239 : TyAt Tryz.prog (lookT tys) 239 (.st .zone) := TyAt.mkS Tryz.type239 rfl rfl rfl Tryz.underlying239 rfl (fun _ => ⟨Tryz.eqGuardType239, Tryz.stoodInHeld239⟩)
theorem ty263 : TyAt Tryz.prog (lookT tys) 263 (.st .link) := TyAt.mkS Tryz.type263 rfl rfl rfl Tryz.underlying263 rfl (fun _ => ⟨Tryz.eqGuardType263, Tryz.stoodInHeld263⟩)
theorem ty273 : TyAt Tryz.prog (lookT tys) 273 (.st .table) := TyAt.mkS Tryz.type273 rfl rfl rfl Tryz.underlying273 rfl (fun h => by cases h)
theorem ty275 : TyAt Tryz.prog (lookT tys) 275 (.st .link) := TyAt.mkS Tryz.type275 rfl rfl rfl Tryz.underlying275 rfl (fun _ => ⟨Tryz.eqGuardType275, Tryz.stoodInHeld275⟩)
theorem tysOK : TyOK Tryz.prog (lookT tys) := tyOK_of ⟨ty3, ⟨ty4, ⟨ty22, ⟨ty23, ⟨ty24, ⟨ty26, ⟨ty27, ⟨ty29, ⟨ty30, ⟨ty32, ⟨ty33, ⟨ty34, ⟨ty35, ⟨ty36, ⟨ty37, ⟨ty38, ⟨ty39, ⟨ty41, ⟨ty43, ⟨ty45, ⟨ty46, ⟨ty47, ⟨ty49, ⟨ty50, ⟨ty52, ⟨ty53, ⟨ty54, ⟨ty55, ⟨ty56, ⟨ty57, ⟨ty58, ⟨ty59, ⟨ty60, ⟨ty62, ⟨ty66, ⟨ty74, ⟨ty76, ⟨ty80, ⟨ty82, ⟨ty131, ⟨ty134, ⟨ty143, ⟨ty156, ⟨ty158, ⟨ty165, ⟨ty171, ⟨ty173, ⟨ty177, ⟨ty212, ⟨ty213, ⟨ty214, ⟨ty216, ⟨ty217, ⟨ty218, ⟨ty220, ⟨ty222, ⟨ty225, ⟨ty227, ⟨ty229, ⟨ty231, ⟨ty233, ⟨ty235, ⟨ty237, ⟨ty239, ⟨ty263, ⟨ty273, ⟨ty275, trivial⟩⟩⟩⟩⟩⟩⟩⟩⟩⟩⟩⟩⟩⟩⟩⟩⟩⟩⟩⟩⟩⟩⟩⟩⟩⟩⟩⟩⟩⟩⟩⟩⟩⟩⟩⟩⟩⟩⟩⟩⟩⟩⟩⟩⟩⟩⟩⟩⟩⟩⟩⟩⟩⟩⟩⟩⟩⟩⟩⟩⟩⟩⟩⟩⟩⟩⟩
theorem mixed : Tryz.prog.follows .mixedOrders = true := by kernel_rfl
end Go.Proofs.YtoildogibnampaaGreat
