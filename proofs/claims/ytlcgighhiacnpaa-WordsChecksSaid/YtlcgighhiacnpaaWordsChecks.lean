/- The walk of the law WordsChecks stands in WdWorks; conditions: none. -/
import Derived.Test.YtlcgighhiacnpaaWdWorks
