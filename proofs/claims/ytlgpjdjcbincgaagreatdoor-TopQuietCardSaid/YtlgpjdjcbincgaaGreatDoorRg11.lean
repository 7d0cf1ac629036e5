/- Part of a proof: plain readings of Go functions, their contracts, or plain facts of them. -/
import Derived.Test.YtlgpjdjcbincgaaGreatDoorRg10
import Derived.Test.YtlgpjdjcbincgaaGreatDoorCards
set_option linter.all false
namespace Go.Proofs.YtlgpjdjcbincgaaGreatDoor
open Go.Den Go.RowKit Go.ChangeShapes
set_option maxRecDepth 100000
def C8 {a b:Bool} (h:a=true) (g:b=true):(a&&b)=true:=by rw[h,g];rfl
def Wε:List FuncId:=[4,6,15,28,9,7,10,20,35,18,31,50,32,47,79,80,81,136,137,203,82,138,204,139,140,205,83,84,86,141,85,48,33,51,100,34,53,52,101,36,54,74,102,55,25,44,75,130,131,124,76,132,200,133,134,201,280,281,113,189,190,127,135,191,202,282,45,77,103,173,246,299,303,68,104,21,37,56,22,38,57,58,59,60,39,61,105,174,248,249,179,198,250,251,106,175,176,177,178,107,180,181,252,305,253,254,108,182,255,109,183,256,306,257,110,184,258,307,321,308,259,309,260,261,119,185,111,186,263,262,187,264,265,266,310,322,324,323,267,143,206,228,283,316,315,311,312,313,188,62,63,112,114,64,115,192,116,40,65,117,66,118,193,268,269,165,231,96,167,237,238,232,296,298,239,242,168,240,300,241,243,297,301,302,244,169,170,245,304,295,294,320,234,166,233,235,236,93,159,160,223,270,123,271,314,27,158,272,226,211,154,217,157,212,287,221,222,290,218,273,49,87,67,120,121,194,274,275,122,195,69,142,125,99,88,144,207,145,208,89,90,147,146,209,284,317,278,91,148,149,150,210,285,286,318,151,152,213,288,153,215,214,216,289,92,155,219,220,291,156,94,162,161,224,225,292,164,229,230,163,227,293,319,95,97,98,172,171,247,126,41,70,71,128,197,196,129,199,276,277,279,42,16,29,8,17,30,19,11]
def AiI:Tryz.prog.closure 4=Wε:=by kernel_rfl
def Ajh:(Rows.topQuietRow.inPlace==Tryz.prog.inPlace 4)=true:=by unfold Program.inPlace;rw[AiI];kernel_rfl
def AiL:Tryz.prog.unfollowed 4=true:=by unfold Program.unfollowed;rw[AiI];kernel_rfl
def Ajl:(Rows.topQuietRow.unfollowed==Tryz.prog.unfollowed 4)=true:=by rw[AiL];kernel_rfl
def Ajk:(Rows.topQuietRow.recurses==Tryz.prog.recurses 4)=true:=by unfold Program.recurses;rw[AiL];kernel_rfl
def Ajm:(Rows.topQuietRow.named==Tryz.prog.varsNamed 4)=true:=by unfold Program.varsNamed;rw[AiI];kernel_rfl
end Go.Proofs.YtlgpjdjcbincgaaGreatDoor
